/-
  A CLOSED EVALUATOR FOR THE MODEL: an abstract machine that carries out a closed call on symbolic memory, so that one run stands for every tape (orders that are drawn, capacities that are drawn). This text: the machine. Conditions: none.
-/
import Derived.WalkKit
namespace Go.Ce
open Go

/-! ### A map from numbers -/
inductive T (α : Type) where
  | e
  | n (v : Option α) (l r : T α)
def T.get {α : Type} : T α → Nat → Option α
  | .e, _ => none
  | .n v l r, k => match k with
    | 0 => v
    | k' + 1 => cond (Nat.beq (k' % 2) 0) (l.get (k' / 2)) (r.get (k' / 2))
def T.set {α : Type} : Nat → T α → Nat → Option α → T α
  | 0, t, _, _ => t
  | f + 1, t, k, x => match t with
    | .e => match k with
      | 0 => .n x .e .e
      | k' + 1 => cond (Nat.beq (k' % 2) 0) (.n none (T.set f .e (k' / 2) x) .e) (.n none .e (T.set f .e (k' / 2) x))
    | .n v l r => match k with
      | 0 => .n x l r
      | k' + 1 => cond (Nat.beq (k' % 2) 0) (.n v (T.set f l (k' / 2) x) r) (.n v l (T.set f r (k' / 2) x))

def T.up {α : Type} (t : T α) (k : Nat) (x : Option α) : T α := T.set (Nat.succ k) t k x

/-! ### Values -/
inductive CV where
  | b (x : Bool)
  | i (k : IntKind) (n : Int)
  | s (l : List Nat)
  | np
  | p (blk off : Nat)
  | ns
  | sl (blk len sub : Nat)
  | se (blk off len cap : Nat)
  | so (blk sub0 sub : Nat)
  | nf
  | ni
  | fn (f : Nat)
  | a (cs : List CV)
  | t (vs : List CV)
  deriving Inhabited

def CV.one : CV → Bool
  | .a _ => false
  | .t _ => false
  | _ => true
def CV.cells : CV → List CV
  | .a cs => cs
  | v => [v]

def ofV1 : Value → Option CV
  | .bool b => some (.b b)
  | .int k n => some (.i k n)
  | .string s => some (.s (s.data.toList.map UInt8.toNat))
  | .pointer none => some .np
  | .slice none n c => cond (Nat.beq n 0 && Nat.beq c 0) (some .ns) none
  | .nilFunc => some .nf
  | .nilIface => some .ni
  | _ => none
def ofVL : List Value → Option (List CV)
  | [] => some []
  | v :: vs => match ofV1 v, ofVL vs with
    | some c, some cs => some (c :: cs)
    | _, _ => none
def ofV : Value → Option CV
  | .agg cs => match ofVL cs.toList with
    | some l => some (.a l)
    | none => none
  | .tuple vs => match vs.toList with
    | [] => some (.t [])
    | _ :: _ => none
  | v => ofV1 v

/-! ### Memory -/
structure AObj where
  cells : List CV
  el : TypeId
  esz : Nat
  fz : Nat
  fb : Bool
  ro : Bool := false
structure AW where
  next : Nat
  heap : T AObj
structure St where
  fr : T CV
  A : AW

/-! ### Small words that the kernel reckons well -/
def forceNat {β : Type} (n : Nat) (f : Nat → β) : β := Nat.casesOn n (f 0) (fun m => f (Nat.succ m))
def mkI (k : IntKind) (n : Int) : CV := match n with
  | .ofNat m => forceNat m fun m => .i k (.ofNat m)
  | .negSucc m => forceNat m fun m => .i k (.negSucc m)
def lim : IntKind → Nat
  | .i8 => 128
  | .u8 => 256
  | .i16 => 32768
  | .u16 => 65536
  | .i32 => 2147483648
  | .u32 => 4294967296
  | .i64 => 9223372036854775808
  | .u64 => 18446744073709551616
def wrapF (k : IntKind) (n : Int) : Int := match n with
  | .ofNat m => cond (Nat.blt m (lim k)) n (k.wrap n)
  | .negSucc m => cond (k.signed && Nat.blt m (lim k)) n (k.wrap n)
def ieq : Int → Int → Bool
  | .ofNat m, .ofNat n => Nat.beq m n
  | .negSucc m, .negSucc n => Nat.beq m n
  | _, _ => false
def ilt : Int → Int → Bool
  | .ofNat m, .ofNat n => Nat.blt m n
  | .negSucc m, .negSucc n => Nat.blt n m
  | .negSucc _, .ofNat _ => true
  | .ofNat _, .negSucc _ => false
def leq : List Nat → List Nat → Bool
  | [], [] => true
  | a :: l, b :: m => Nat.beq a b && leq l m
  | _, _ => false
def llt : List Nat → List Nat → Bool
  | _, [] => false
  | [], _ :: _ => true
  | a :: l, b :: m => Nat.blt a b || (Nat.beq a b && llt l m)
def keq : IntKind → IntKind → Bool
  | .i8, .i8 => true
  | .i16, .i16 => true
  | .i32, .i32 => true
  | .i64, .i64 => true
  | .u8, .u8 => true
  | .u16, .u16 => true
  | .u32, .u32 => true
  | .u64, .u64 => true
  | _, _ => false
def getN {α : Type} : List α → Nat → Option α
  | [], _ => none
  | a :: l, n => Nat.casesOn n (some a) (fun m => getN l m)
def setN {α : Type} : List α → Nat → α → Option (List α)
  | [], _, _ => none
  | a :: l, n, x => Nat.casesOn n (some (x :: l)) (fun m => match setN l m x with
    | some l' => some (a :: l')
    | none => none)
/-- n cells from o on, all of them there. -/
def cutN {α : Type} : List α → Nat → Option (List α)
  | l, n => Nat.rec (motive := fun _ => List α → Option (List α)) (fun _ => some []) (fun _ ih l => match l with
    | [] => none
    | a :: l' => match ih l' with
      | some r => some (a :: r)
      | none => none) n l
def dropN {α : Type} : List α → Nat → List α
  | l, n => Nat.rec (motive := fun _ => List α → List α) (fun l => l) (fun _ ih l => match l with
    | [] => []
    | _ :: l' => ih l') n l
def subN {α : Type} (l : List α) (o n : Nat) : Option (List α) := cutN (dropN l o) n
def lenN {α : Type} : List α → Nat
  | [] => 0
  | _ :: l => forceNat (lenN l) Nat.succ
def setL {α : Type} : List α → Nat → List α → Option (List α)
  | l, _, [] => some l
  | l, o, x :: xs => match setN l o x with
    | some l' => setL l' (Nat.succ o) xs
    | none => none
def allOne : List CV → Bool
  | [] => true
  | c :: cs => c.one && allOne cs

/-! Are two values the same? -/
mutual
def ceq : CV → CV → Bool
  | .b x, .b y => match x, y with
    | true, true => true
    | false, false => true
    | _, _ => false
  | .i k m, .i k' n => keq k k' && ieq m n
  | .s l, .s m => leq l m
  | .np, .np => true
  | .p b o, .p b' o' => Nat.beq b b' && Nat.beq o o'
  | .ns, .ns => true
  | .sl b n k, .sl b' n' k' => Nat.beq b b' && Nat.beq n n' && Nat.beq k k'
  | .se b o n c, .se b' o' n' c' => Nat.beq b b' && Nat.beq o o' && Nat.beq n n' && Nat.beq c c'
  | .so b n k, .so b' n' k' => Nat.beq b b' && Nat.beq n n' && Nat.beq k k'
  | .nf, .nf => true
  | .ni, .ni => true
  | .fn f, .fn g => Nat.beq f g
  | .a l, .a m => ceqL l m
  | .t l, .t m => ceqL l m
  | _, _ => false
def ceqL : List CV → List CV → Bool
  | [], [] => true
  | a :: l, b :: m => ceq a b && ceqL l m
  | _, _ => false
end
def ceq' (a b : CV) : Bool := ceq a b

/-! ### Operations that leave the world alone -/
section
variable (P : Program)
def opVal (fr : T CV) : Operand → Option CV
  | .tmp t => fr.get t
  | .const v => ofV v
  | .func f => some (.fn f)
  | .global _ => none
def sizeP (t : TypeId) : Option Nat := match P.info? t with
  | some i => some i.size
  | none => none
def aggP (t : TypeId) : Option Bool := match P.underlying t with
  | some (.struct _) => some true
  | some (.array _ _) => some true
  | some _ => some false
  | none => none
/-- A part of an aggregate. -/
def partA (t : TypeId) (cs : List CV) (off : Nat) : Option CV := match aggP P t with
  | some true => match sizeP P t with
    | some n => match subN cs off n with
      | some l => some (.a l)
      | none => none
    | none => none
  | some false => getN cs off
  | none => none
def loadA (A : AW) (t : TypeId) (blk off : Nat) : Option CV := match A.heap.get blk with
  | some ob => partA P t ob.cells off
  | none => none
def intBin (op : BinOp) (k : IntKind) (m n : Int) : Option CV := match op with
  | .add => some (mkI k (wrapF k (m + n)))
  | .sub => some (mkI k (wrapF k (m - n)))
  | .mul => some (mkI k (wrapF k (m * n)))
  | .quo => cond (ieq n 0) none (some (mkI k (wrapF k (m.tdiv n))))
  | .rem => cond (ieq n 0) none (some (mkI k (m.tmod n)))
  | .and => some (mkI k (k.wrap (BitVec.ofInt k.bits m &&& BitVec.ofInt k.bits n).toNat))
  | .or => some (mkI k (k.wrap (BitVec.ofInt k.bits m ||| BitVec.ofInt k.bits n).toNat))
  | .xor => some (mkI k (k.wrap (BitVec.ofInt k.bits m ^^^ BitVec.ofInt k.bits n).toNat))
  | .andNot => some (mkI k (k.wrap (BitVec.ofInt k.bits m &&& ~~~(BitVec.ofInt k.bits n)).toNat))
  | .eql => some (.b (ieq m n))
  | .neq => some (.b (!ieq m n))
  | .lss => some (.b (ilt m n))
  | .leq => some (.b (!ilt n m))
  | .gtr => some (.b (ilt n m))
  | .geq => some (.b (!ilt m n))
  | _ => none
def strBin (op : BinOp) (l m : List Nat) : Option CV := match op with
  | .add => cond (Nat.blt (lenN l + lenN m) 1099511627776) (some (.s (l ++ m))) none
  | .eql => some (.b (leq l m))
  | .neq => some (.b (!leq l m))
  | .lss => some (.b (llt l m))
  | .leq => some (.b (llt l m || leq l m))
  | .gtr => some (.b (!(llt l m || leq l m)))
  | .geq => some (.b (!llt l m))
  | _ => none
def shiftA (op : BinOp) (k : IntKind) (m n : Int) : Option CV := cond (ilt n 0) none (match op with
  | .shl => some (mkI k (wrapF k (m * 2 ^ (min n.toNat k.bits))))
  | .shr => some (mkI k (m.fdiv (2 ^ (min n.toNat k.bits))))
  | _ => none)
def isShift : BinOp → Bool
  | .shl => true
  | .shr => true
  | _ => false
/-- == of two values that are no numbers and no texts. -/
def eqA (t : TypeId) (x y : CV) : Option Bool := match P.underlying t, x, y with
  | some .bool, .b x, .b y => some (cond x y (!y))
  | some (.pointer _), .np, .np => some true
  | some (.pointer _), .np, .p _ _ => some false
  | some (.pointer _), .p _ _, .np => some false
  | some (.pointer e), .p b o, .p b' o' => match sizeP P e with
    | some n => cond (Nat.beq b b' && !Nat.beq n 0) (some (Nat.beq o o')) none
    | none => none
  | some (.slice _), .ns, .ns => some true
  | some (.slice _), .ns, .sl _ _ _ => some false
  | some (.slice _), .ns, .se _ _ _ _ => some false
  | some (.slice _), .sl _ _ _, .ns => some false
  | some (.slice _), .se _ _ _ _, .ns => some false
  | some (.slice _), .ns, .so _ _ _ => some false
  | some (.slice _), .so _ _ _, .ns => some false
  | some (.func _ _ _), .nf, .nf => some true
  | some (.func _ _ _), .nf, .fn _ => some false
  | some (.func _ _ _), .fn _, .nf => some false
  | _, _, _ => none
def binA (op : BinOp) (t : TypeId) (x y : CV) : Option CV := match x, y with
  | .i k m, .i k' n => cond (isShift op) (shiftA op k m n) (cond (keq k k') (intBin op k m n) none)
  | .s l, .s m => strBin op l m
  | x, y => match op with
    | .eql => match eqA P t x y with
      | some r => some (.b r)
      | none => none
    | .neq => match eqA P t x y with
      | some r => some (.b (!r))
      | none => none
    | _ => none
def unA (op : UnOp) (x : CV) : Option CV := match op, x with
  | .not, .b x => some (.b (!x))
  | .neg, .i k n => some (mkI k (wrapF k (0 - n)))
  | .xor, .i k n => intBin .xor k (if k.signed then -1 else k.max) n
  | _, _ => none
/-- The bytes in cells. -/
def bytesA : List CV → Option (List Nat)
  | [] => some []
  | .i .u8 (.ofNat m) :: l => match bytesA l with
    | some r => cond (Nat.blt m 256) (some (m :: r)) none
    | none => none
  | _ :: _ => none
/-- A unit's bytes. -/
def encL (n : Int) : List Nat := (Utf8.encode n).data.toList.map UInt8.toNat
def encA (n : Int) : List Nat := match n with
  | .ofNat m => cond (Nat.blt m 128) [m] (encL (.ofNat m))
  | .negSucc m => encL (.negSucc m)
/-- The text of units in cells. -/
def runesA : List CV → Option (List Nat)
  | [] => some []
  | .i .i32 n :: l => match runesA l with
    | some r => some (encA n ++ r)
    | none => none
  | _ :: _ => none
def cellsA (A : AW) (blk off n : Nat) : Option (List CV) := match A.heap.get blk with
  | some ob => subN ob.cells off n
  | none => none
/-- The cells of a slice's elements. -/
def elemsA (A : AW) (size : Nat) (v : CV) : Option (List CV) := match v with
  | .ns => some []
  | .sl b n k => match A.heap.get b with
    | some ob => cond (Nat.beq ob.esz size) (subN ob.cells (k * size) (n * size)) none
    | none => none
  | .se b o n _ => cellsA A b o (n * size)
  | .so _ _ _ => some []
  | _ => none
def convA (A : AW) (src dst : TypeId) (x : CV) : Option CV := match P.underlying src, P.underlying dst, x with
  | some (.pointer t), some .unsafePointer, .p b o => match sizeP P t, A.heap.get b with
    | some n, some ob => match getN ob.cells o with
      | some _ => cond (Nat.beq n 0) none (some (.p b o))
      | none => none
    | _, _ => none
  | some .unsafePointer, some (.pointer u), .p b o => match sizeP P u, A.heap.get b with
    | some n, some ob => cond (Nat.beq u ob.el && Nat.beq o 0 && !Nat.beq n 0 && Nat.beq ob.esz 0) (match subN ob.cells 0 n with
      | some _ => some (.p b o)
      | none => none) none
    | _, _ => none
  | some _, some (.int k), .i _ n => some (mkI k (wrapF k n))
  | some _, some .string, .s l => some (.s l)
  | some (.slice e), some .string, x => match P.underlying e with
    | some (.int .u8) => match x with
      | .ns => some (.s [])
      | .so _ _ _ => some (.s [])
      | .sl b n k => match elemsA A 1 (.sl b n k) with
        | some cs => match bytesA cs with
          | some l => some (.s l)
          | none => none
        | none => none
      | .se b o n c => match elemsA A 1 (.se b o n c) with
        | some cs => match bytesA cs with
          | some l => some (.s l)
          | none => none
        | none => none
      | _ => none
    | some (.int .i32) => match x with
      | .ns => some (.s [])
      | .so _ _ _ => some (.s [])
      | .sl b n k => match elemsA A 1 (.sl b n k) with
        | some cs => match runesA cs with
          | some l => some (.s l)
          | none => none
        | none => none
      | .se b o n c => match elemsA A 1 (.se b o n c) with
        | some cs => match runesA cs with
          | some l => some (.s l)
          | none => none
        | none => none
      | _ => none
    | _ => none
  | _, _, _ => none
def idxOf (v : CV) : Option Nat := match v with
  | .i _ (.ofNat m) => some m
  | _ => none
def indexAddrA (A : AW) (t : TypeId) (x ix : CV) : Option CV := match idxOf ix, P.underlying t with
  | some j, some (.slice e) => match sizeP P e, x with
    | some sz, .sl b n k => match A.heap.get b with
      | some ob => cond (Nat.beq ob.esz sz && Nat.blt j n) (some (.p b ((k + j) * sz))) none
      | none => none
    | some sz, .se b o n _ => cond (Nat.blt j n) (some (.p b (o + j * sz))) none
    | _, _ => none
  | some j, some (.array n e) => match sizeP P e, x with
    | some sz, .p b o => cond (Nat.blt j n) (some (.p b (o + j * sz))) none
    | _, _ => none
  | _, _ => none
def indexA (t : TypeId) (x ix : CV) : Option CV := match idxOf ix, P.underlying t, x with
  | some j, some (.array n e), .a cs => match sizeP P e with
    | some sz => cond (Nat.blt j n) (partA P e cs (j * sz)) none
    | none => none
  | some j, some .string, .s l => match getN l j with
    | some m => some (.i .u8 (.ofNat m))
    | none => none
  | _, _, _ => none
/-- The bounds of a slice expression: low, high, and whether there is a third. -/
def boundA (fr : T CV) (x : Option Operand) (d : Nat) : Option Nat := match x with
  | none => some d
  | some o => match opVal fr o with
    | some v => idxOf v
    | none => none
def sliceA (A : AW) (t : TypeId) (x : CV) (fr : T CV) (lo hi mx : Option Operand) : Option CV := match P.underlying t, x, mx with
  | some .string, .s l, none => match boundA fr lo 0, boundA fr hi (lenN l) with
    | some lo, some hi => cond (Nat.ble lo hi && Nat.ble hi (lenN l)) (match subN l lo (hi - lo) with
      | some m => some (.s m)
      | none => none) none
    | _, _ => none
  | some (.slice e), .ns, none => match boundA fr lo 0, boundA fr hi 0, sizeP P e with
    | some lo, some hi, some _ => cond (Nat.beq lo 0 && Nat.beq hi 0) (some .ns) none
    | _, _, _ => none
  | some (.slice e), .sl b n k, none => match boundA fr lo 0, boundA fr hi n, A.heap.get b, sizeP P e with
    | some lo, some hi, some ob, some sz => cond (Nat.ble lo hi && Nat.ble hi n && Nat.beq ob.esz sz) (cond (Nat.beq lo 0 || Nat.blt lo n) (some (.sl b (hi - lo) (k + lo))) (some (.so b k (k + lo)))) none
    | _, _, _, _ => none
  | some (.slice e), .so b k0 k, none => match boundA fr lo 0, boundA fr hi 0, sizeP P e with
    | some lo, some hi, some _ => cond (Nat.beq lo 0 && Nat.beq hi 0) (some (.so b k0 k)) none
    | _, _, _ => none
  | some (.slice e), .se b o n c, none => match boundA fr lo 0, boundA fr hi n, sizeP P e with
    | some lo, some hi, some sz => cond (Nat.ble lo hi && Nat.ble hi c) (some (.se b (cond (Nat.beq c lo) o (o + lo * sz)) (hi - lo) (c - lo))) none
    | _, _, _ => none
  | some (.slice e), .se b o _ c, some mx => match boundA fr lo 0, boundA fr hi 0, boundA fr (some mx) 0, sizeP P e, hi with
    | some lo, some h, some m, some sz, some _ => cond (Nat.ble lo h && Nat.ble h m && Nat.ble m c) (some (.se b (cond (Nat.beq m lo) o (o + lo * sz)) (h - lo) (m - lo))) none
    | _, _, _, _, _ => none
  | some (.array n e), .p b o, none => match boundA fr lo 0, boundA fr hi n, sizeP P e with
    | some lo, some hi, some sz => cond (Nat.ble lo hi && Nat.ble hi n) (some (.se b (cond (Nat.beq n lo) o (o + lo * sz)) (hi - lo) (n - lo))) none
    | _, _, _ => none
  | _, _, _ => none
def fieldAddrA (s : TypeId) (x : CV) (f : Nat) : Option CV := match P.underlying s, x with
  | some (.struct fs), .p b o => match fs[f]? with
    | some fd => match sizeP P fd.type with
      | some n => cond (Nat.beq n 0) none (forceNat (o + fd.offset) fun m => some (.p b m))
      | none => none
    | none => none
  | _, _ => none
def fieldA (t : TypeId) (x : CV) (f : Nat) : Option CV := match P.underlying t, x with
  | some (.struct fs), .a cs => match fs[f]? with
    | some fd => partA P fd.type cs fd.offset
    | none => none
  | _, _ => none
/-- Parts laid into cells. -/
def fillA (place : Nat → Option (Nat × Nat)) (fr : T CV) : List CV → List (Nat × Operand) → Option (List CV)
  | cs, [] => some cs
  | cs, (i, x) :: rest => match place i, opVal fr x with
    | some (off, size), some v => cond (Nat.beq (lenN v.cells) size && !Nat.beq size 0) (match setL cs off v.cells with
      | some cs' => fillA place fr cs' rest
      | none => none) none
    | _, _ => none
def zeroA (t : TypeId) : Option CV := match P.info? t with
  | some i => match i.zero with
    | some v => ofV v
    | none => none
  | none => none
def placesOf : List Field → Option (List (Nat × Nat))
  | [] => some []
  | f :: fs => match sizeP P f.type, placesOf fs with
    | some n, some r => some ((f.offset, n) :: r)
    | _, _ => none
def buildA (t : TypeId) (fr : T CV) (parts : List (Nat × Operand)) : Option CV := match zeroA P t, P.underlying t with
  | some z, some (.struct fs) => match placesOf P fs.toList with
    | some pl => match fillA (fun i => getN pl i) fr z.cells parts with
      | some cs => some (.a cs)
      | none => none
    | none => none
  | some z, some (.array _ e) => match sizeP P e with
    | some sz => match fillA (fun i => some (i * sz, sz)) fr z.cells parts with
      | some cs => some (.a cs)
      | none => none
    | none => none
  | _, _ => none
def minA (x y : CV) : Option CV := match x, y with
  | .i k m, .i _ n => some (.i k (cond (ilt n m) n m))
  | _, _ => none
def maxA (x y : CV) : Option CV := match x, y with
  | .i k m, .i _ n => some (.i k (cond (ilt m n) n m))
  | _, _ => none
def foldA (f : CV → CV → Option CV) (fr : T CV) : CV → List Operand → Option CV
  | x, [] => some x
  | x, o :: l => match opVal fr o with
    | some y => match f x y with
      | some z => foldA f fr z l
      | none => none
    | none => none
def lenA (t : TypeId) (x : CV) : Option CV := match P.underlying t, x with
  | some .string, .s l => some (.i .i64 (.ofNat (lenN l)))
  | some (.array n _), _ => some (.i .i64 (.ofNat n))
  | some (.slice _), .ns => some (.i .i64 (.ofNat 0))
  | some (.slice _), .sl _ n _ => some (.i .i64 (.ofNat n))
  | some (.slice _), .se _ _ n _ => some (.i .i64 (.ofNat n))
  | some (.slice _), .so _ _ _ => some (.i .i64 (.ofNat 0))
  | _, _ => none
def builtinQ (b : Builtin) (tys : List TypeId) (fr : T CV) (args : List Operand) : Option CV := match b, tys, args with
  | .len, t :: _, x :: _ => match opVal fr x with
    | some v => lenA P t v
    | none => none
  | .min, _, x :: l => match opVal fr x with
    | some v => foldA minA fr v l
    | none => none
  | .max, _, x :: l => match opVal fr x with
    | some v => foldA maxA fr v l
    | none => none
  | .unsafeSliceData, _, [x] => match opVal fr x with
    | some .ns => some .np
    | some (.sl b n k) => cond (Nat.beq n 0 || Nat.beq k 0 == false) none (some (.p b 0))
    | some (.se b o _ c) => cond (Nat.beq c 0) none (some (.p b o))
    | _ => none
  | _, _, _ => none
/-- An operation that yields its value and leaves the world as it is. -/
def evQ (o : Op) (fr : T CV) (A : AW) : Option CV := match o with
  | .move x => opVal fr x
  | .assign x => opVal fr x
  | .pick c a b => match opVal fr c with
    | some (.b t) => cond t (opVal fr a) (opVal fr b)
    | _ => none
  | .load t a => match opVal fr a with
    | some (.p b o) => loadA P A t b o
    | _ => none
  | .nilCheck x => match opVal fr x with
    | some (.p b o) => some (.p b o)
    | _ => none
  | .binOp op t x y _ => match opVal fr x, opVal fr y with
    | some a, some b => binA P op t a b
    | _, _ => none
  | .unOp op _ x => match opVal fr x with
    | some a => unA op a
    | none => none
  | .convert s d x => match opVal fr x with
    | some a => convA P A s d a
    | none => none
  | .fieldAddr s x f => match opVal fr x with
    | some a => fieldAddrA P s a f
    | none => none
  | .field t x f => match opVal fr x with
    | some a => fieldA P t a f
    | none => none
  | .indexAddr t x ix => match opVal fr x, opVal fr ix with
    | some a, some i => indexAddrA P A t a i
    | _, _ => none
  | .index t x ix => match opVal fr x, opVal fr ix with
    | some a, some i => indexA P t a i
    | _, _ => none
  | .slice t x lo hi mx => match opVal fr x with
    | some a => sliceA P A t a fr lo hi mx
    | none => none
  | .extract x i => match opVal fr x with
    | some (.t vs) => getN vs i
    | _ => none
  | .build t parts => buildA P t fr parts.toList
  | .call c => match c.callee with
    | .builtin b => builtinQ P b c.argTypes.toList fr c.args.toList
    | _ => none
  | _ => none

/-! ### Operations that make a block out of their operands alone -/
def repA (z : List CV) : Nat → List CV
  | n => Nat.rec (motive := fun _ => List CV) [] (fun _ ih => z ++ ih) n
def zerosA (t : TypeId) (n size : Nat) : Option (List CV) := cond (Nat.beq (n * size) 0) (some []) (match zeroA P t with
  | some z => cond (Nat.beq (lenN z.cells) size) (some (repA z.cells n)) none
  | none => none)
/-- The new block, and the value that leads to it (of the block's number). -/
def evAl (o : Op) (fr : T CV) : Option (AObj × (Nat → CV)) := match o with
  | .alloc e => match zeroA P e with
    | some z => some ({ cells := z.cells, el := e, esz := 0, fz := 0, fb := false }, fun n => .p n 0)
    | none => none
  | .box e x => match opVal fr x with
    | some v => some ({ cells := v.cells, el := e, esz := 0, fz := 0, fb := false }, fun n => .p n 0)
    | none => none
  | .buildSlice t len parts => match P.underlying t with
    | some (.slice e) => match sizeP P e with
      | some sz => cond (Nat.blt (len * sz) 1000000) (match zerosA P e len sz with
        | some z => match fillA (fun i => some (i * sz, sz)) fr z parts.toList with
          | some cs => some ({ cells := cs, el := e, esz := 0, fz := 0, fb := false }, fun n => .se n 0 len len)
          | none => none
        | none => none) none
      | none => none
    | _ => none
  | .makeSlice t l c => match P.underlying t, opVal fr l, opVal fr c with
    | some (.slice e), some lv, some cv => match idxOf lv, idxOf cv, P.info? e with
      | some l, some c, some i => cond (Nat.ble l c && Nat.blt (c * i.bytes) 1099511627776 && Nat.blt c 1099511627776 && Nat.blt (c * i.size) 1099511627776) (match zerosA P e c i.size with
        | some z => some ({ cells := z, el := e, esz := 0, fz := 0, fb := false }, fun n => .se n 0 l c)
        | none => none) none
      | _, _, _ => none
    | _, _, _ => none
  | _ => none

/-! ### Operations that turn the world -/
def AW.put (A : AW) (b : Nat) (o : Option AObj) : AW := { A with heap := T.up A.heap b o }
def AW.new (A : AW) (o : AObj) : Option AW := forceNat A.next fun n => some { next := Nat.succ n, heap := T.up A.heap n (some o) }
def storeA (A : AW) (t : TypeId) (blk off : Nat) (v : CV) : Option AW := match A.heap.get blk, sizeP P t with
  | some ob, some n => cond (Nat.beq (lenN v.cells) n && Nat.ble ob.fz off && !ob.ro && allOne v.cells && !Nat.beq n 0) (match setL ob.cells off v.cells with
    | some cs => some (A.put blk (some { ob with cells := cs }))
    | none => none) none
  | _, _ => none
/-- What is appended: a slice's elements, or a text's bytes. -/
def newsA (A : AW) (size : Nat) (x : CV) : Option (Nat × List CV) := match x with
  | .ns => some (0, [])
  | .so _ _ _ => some (0, [])
  | .sl b n k => match elemsA A size (.sl b n k) with
    | some l => some (n, l)
    | none => none
  | .se b o n c => match elemsA A size (.se b o n c) with
    | some l => some (n, l)
    | none => none
  | .s l => cond (Nat.beq size 1) (some (lenN l, l.map fun m => .i .u8 (.ofNat m))) none
  | _ => none
/-- append. A growable row: whether it grows is left open: the old row is gone either way. -/
def notInt : Option TypeDesc → Bool
  | some (.slice _) => true
  | some .string => true
  | _ => false
def appendA (A : AW) (t u : TypeId) (s x : CV) : Option (CV × AW) := cond (notInt (P.underlying u)) (match P.underlying t with
  | some (.slice e) => match P.info? e with
    | some i => match newsA A i.size x with
      | some (m, news) => cond (allOne news && Nat.blt 0 i.size) (match zeroA P e with
        | some z => cond (Nat.beq (lenN z.cells) i.size) (match s with
          | .ns => cond (Nat.beq m 0) (some (.ns, A)) (cond (Nat.blt (m * i.bytes) 1099511627776 && Nat.blt m 1099511627776)
              (match A.new { cells := news, el := e, esz := i.size, fz := 0, fb := false } with
              | some A' => some (.sl A.next m 0, A')
              | none => none) none)
          | .sl b n k => match A.heap.get b with
            | some ob => cond (Nat.beq ob.esz i.size && !ob.ro && Nat.ble ob.fz ((k + n) * i.size) && Nat.blt ((n + m) * i.bytes) 1099511627776 && Nat.blt (n + m) 1099511627776 && Nat.beq ob.el e) (match subN ob.cells (k * i.size) (n * i.size) with
              | some old => cond (allOne old) (match (A.put b none).new { cells := old ++ news, el := ob.el, esz := i.size, fz := ob.fz - k * i.size, fb := ob.fb } with
                | some A' => some (.sl A.next (n + m) 0, A')
                | none => none) none
              | none => none) none
            | none => none
          | .se b o n c => match A.heap.get b with
            | some ob => cond (Nat.ble (n + m) c)
                (cond (Nat.ble ob.fz (o + n * i.size) && !ob.ro) (match setL ob.cells (o + n * i.size) news with
                | some cs => some (.se b o (n + m) c, A.put b (some { ob with cells := cs }))
                | none => none) none)
                (cond (Nat.blt ((n + m) * i.bytes) 1099511627776 && Nat.blt (n + m) 1099511627776) (match subN ob.cells o (n * i.size) with
                | some old => cond (allOne old) (match A.new { cells := old ++ news, el := e, esz := i.size, fz := 0, fb := false } with
                  | some A' => some (.sl A.next (n + m) 0, A')
                  | none => none) none
                | none => none) none)
            | none => none
          | _ => none) none
        | none => none) none
      | none => none
    | none => none
  | _ => none) none
/-- The mark of a block that was made of a text. -/
def markA (A : AW) (b : Nat) : Option AW := match A.heap.get b with
  | some ob => cond (Nat.beq ob.fz 0 && Nat.beq ob.esz 0 && !ob.ro) (some (A.put b (some { ob with fb := true }))) none
  | none => none
/-- []byte of a text. -/
def s2bA (A : AW) (src dst : TypeId) (x : CV) : Option (CV × AW) := match P.underlying src, P.underlying dst, x with
  | some .string, some (.slice e), .s l => match P.underlying e, sizeP P e with
    | some (.int .u8), some 1 => cond (Nat.blt (lenN l) 1099511627776) (match A.new { cells := l.map fun m => .i .u8 (.ofNat m), el := e, esz := 1, fz := 0, fb := true } with
      | some A' => some (.sl A.next (lenN l) 0, A')
      | none => none) none
    | _, _ => none
  | some (.slice _), some (.slice e), .sl b n k => cond (Nat.beq src dst) (match P.underlying e, markA A b with
    | some (.int .u8), some A' => some (.sl b n k, A')
    | _, _ => none) none
  | some (.slice _), some (.slice e), .se b o n c => cond (Nat.beq src dst) (match P.underlying e, markA A b with
    | some (.int .u8), some A' => some (.se b o n c, A')
    | _, _ => none) none
  | _, _, _ => none
/-- unsafe.String. -/
def usA (A : AW) (tys : List TypeId) (p n : CV) : Option (CV × AW) := match tys, p, n with
  | [_, _], .np, .i .i64 (.ofNat m) => cond (Nat.beq m 0) (some (.s [], A)) none
  | [pt, _], .p b o, .i .i64 (.ofNat m) => cond (Nat.beq m 0) (some (.s [], A)) (match P.underlying pt, A.heap.get b with
    | some (.pointer e), some ob => match P.underlying e, sizeP P e with
      | some (.int .u8), some 1 => cond (Nat.beq e ob.el && Nat.blt m 1099511627776 && !ob.fb && !ob.ro) (match subN ob.cells o m with
        | some cs => match bytesA cs with
          | some l => some (.s l, A.put b (some { ob with fz := cond (Nat.ble ob.fz (o + m)) (o + m) ob.fz }))
          | none => none
        | none => none) none
      | _, _ => none
    | _, _ => none)
  | _, _, _ => none
def argsA (fr : T CV) : List Operand → Option (List CV)
  | [] => some []
  | o :: l => match opVal fr o, argsA fr l with
    | some v, some vs => some (v :: vs)
    | _, _ => none
/-- The functions without a body that are known. -/
inductive Ext where
  | same
  | indexByte
def firstA (m : Nat) : List Nat → Nat → Option Nat
  | [], _ => none
  | a :: l, i => cond (Nat.beq a m) (some i) (firstA m l (Nat.succ i))
def extA (e : Ext) (vs : List CV) : Option CV := match e, vs with
  | .same, [v] => some v
  | .indexByte, [.s l, .i .u8 (.ofNat m)] => cond (Nat.blt m 256) (match firstA m l 0 with
    | some i => some (.i .i64 (.ofNat i))
    | none => some (.i .i64 (.negSucc 0))) none
  | _, _ => none

inductive Ex where
  | normal
  | exit (id : Nat)
  | goto (l : Nat)
  | ret
inductive Task where
  | code (c : Code) (n : Nat) (st : St)
  | call (f : Nat) (vs : List CV) (A : AW)
inductive Res where
  | code (e : Ex) (st : St)
  | val (v : CV) (A : AW)

section
variable (exts : List (Nat × Ext)) (ih : Task → Option Res)
def extOf : List (Nat × Ext) → Nat → Option Ext
  | [], _ => none
  | (g, e) :: l, f => cond (Nat.beq g f) (some e) (extOf l f)
/-- An operation that may turn the world; none: it yields no value. -/
def evW (o : Oper) (fr : T CV) (A : AW) : Option (Option CV × AW) := match o.op with
  | .store t a v => match opVal fr a, opVal fr v with
    | some (.p b off), some x => match storeA P A t b off x with
      | some A' => some (none, A')
      | none => none
    | _, _ => none
  | .convert s d x => match opVal fr x with
    | some v => match s2bA P A s d v with
      | some (r, A') => some (some r, A')
      | none => none
    | none => none
  | .call c => match c.callee with
    | .builtin .append => match c.argTypes.toList, c.args.toList with
      | t :: u :: _, [s, x] => match opVal fr s, opVal fr x with
        | some s, some x => match appendA P A t u s x with
          | some (r, A') => some (some r, A')
          | none => none
        | _, _ => none
      | _, _ => none
    | .builtin .unsafeString => match c.args.toList with
      | [p, n] => match opVal fr p, opVal fr n with
        | some p, some n => match usA P A c.argTypes.toList p n with
          | some (r, A') => some (some r, A')
          | none => none
        | _, _ => none
      | _ => none
    | .value (.func f) => match argsA fr c.args.toList with
      | some vs => match extOf exts f with
        | some e => match extA e vs with
          | some r => some (some r, A)
          | none => none
        | none => match ih (.call f vs A) with
          | some (.val v A') => some (some v, A')
          | _ => none
      | none => none
    | _ => none
  | _ => none

/-! ### Regions -/
def putD (n : Nat) (fr : T CV) (d : Option Nat) (v : CV) : Option (T CV) := match d with
  | none => some fr
  | some t => cond (Nat.blt t n) (some (T.up fr t (some v))) none
/-- Is an operation wanted? -/
def wantedA (ol : List Oper) (fr : T CV) (o : Oper) : Option Bool := match o.guard with
  | none => some true
  | some (j, want) => match getN ol j with
    | some g => match g.dst with
      | some t => match fr.get t with
        | some (.b x) => some (cond x want (!want))
        | some (.t []) => some false
        | _ => none
      | none => none
    | none => none
/-- A quiet operation, in its turn. -/
def doQ (n : Nat) (o : Oper) (st : St) : Option St := match evQ P o.op st.fr st.A with
  | some v => match putD n st.fr o.dst v with
    | some fr => some ⟨fr, st.A⟩
    | none => none
  | none => none
def doAl (n : Nat) (o : Oper) (st : St) : Option St := match evAl P o.op st.fr with
  | some (ob, mk) => match st.A.new ob with
    | some A' => match putD n st.fr o.dst (mk st.A.next) with
      | some fr => some ⟨fr, A'⟩
      | none => none
    | none => none
  | none => none
def doW (n : Nat) (o : Oper) (st : St) : Option St := match evW P exts ih o st.fr st.A with
  | some (v, A') => match putD n st.fr o.dst (v.getD (.t [])) with
    | some fr => some ⟨fr, A'⟩
    | none => none
  | none => none
def doN (n : Nat) (o : Oper) (st : St) : Option St := match putD n st.fr o.dst (.t []) with
  | some fr => some ⟨fr, st.A⟩
  | none => none
inductive Kd where
  | q | al | w
def kind (P : Program) : Op → Kd
  | .move _ => .q
  | .assign _ => .q
  | .pick _ _ _ => .q
  | .load _ _ => .q
  | .nilCheck _ => .q
  | .binOp _ _ _ _ _ => .q
  | .unOp _ _ _ => .q
  | .convert _ d _ => match P.underlying d with
    | some (.slice _) => .w
    | _ => .q
  | .fieldAddr _ _ _ => .q
  | .field _ _ _ => .q
  | .indexAddr _ _ _ => .q
  | .index _ _ _ => .q
  | .slice _ _ _ _ _ => .q
  | .extract _ _ => .q
  | .build _ _ => .q
  | .call c => match c.callee with
    | .builtin .len => .q
    | .builtin .min => .q
    | .builtin .max => .q
    | .builtin .unsafeSliceData => .q
    | _ => .w
  | .alloc _ => .al
  | .box _ _ => .al
  | .buildSlice _ _ _ => .al
  | .makeSlice _ _ _ => .al
  | _ => .w
def evOp (n : Nat) (o : Oper) (st : St) : Option St := match kind P o.op with
  | .q => doQ P n o st
  | .al => doAl P n o st
  | .w => doW P exts ih n o st
def evOps (ol : List Oper) (n : Nat) : List Oper → St → Option St
  | [], st => some st
  | o :: l, st => match wantedA ol st.fr o with
    | some true => match evOp P exts ih n o st with
      | some st' => evOps ol n l st'
      | none => none
    | some false => match doN n o st with
      | some st' => evOps ol n l st'
      | none => none
    | none => none

/-! ### Regions that draw their order: one order that stands for all -/
def mem (x : Nat) : List Nat → Bool
  | [] => false
  | y :: l => Nat.beq x y || mem x l
def sub : List Nat → List Nat → Bool
  | [], _ => true
  | x :: l, m => mem x m && sub l m
def ins (x : Nat) (l : List Nat) : List Nat := cond (mem x l) l (x :: l)
def uni : List Nat → List Nat → List Nat
  | [], m => m
  | x :: l, m => ins x (uni l m)
/-- The operations that one waits for. -/
def waits (o : Oper) : List Nat := o.after.toList.filterMap fun e => cond (Region.binds .any e) (some e.on) none
/-- Of each operation all that must have come before it. -/
def ancs (ol : List Oper) : List (List Nat) := ol.foldl (fun acc o => acc ++ [(waits o).foldr (fun d r => ins d (uni ((getN acc d).getD []) r)) []]) []
def isW (o : Oper) : Bool := match o.op with
  | .assign _ => true
  | .alloc _ => false
  | op => match kind P op with
    | .q => false
    | _ => true
def looks (ol : List Oper) (o : Oper) : List Nat :=
  (o.op.operands.toList.filterMap fun x => match x with
    | .tmp t => some t
    | _ => none) ++
  (match o.guard with
   | some (g, _) => match getN ol g with
     | some h => match h.dst with
       | some t => [t]
       | none => []
     | none => []
   | none => [])
def memO (x : Option Nat) (l : List Nat) : Bool := match x with
  | some t => mem t l
  | none => false
def eqO : Option Nat → Option Nat → Bool
  | some x, some y => Nat.beq x y
  | _, _ => false
def isAl : Op → Bool
  | .alloc _ => true
  | _ => false
def allD (ol : List Oper) (pre : List Nat) (f : Nat → Oper → Bool) : Bool := pre.all fun d => match getN ol d with
  | some o => f d o
  | none => false
/-- Does the operation 'o', new in the plan, leave an earlier one 'x' alone (that may still be to come in the world), and does it wait for it where it wants its value? 'anc': x must have come. -/
def fits (ol : List Oper) (x o : Oper) (anc : Bool) : Bool :=
  (!memO x.dst (looks ol o) || anc) && ((!memO o.dst (looks ol x) && !eqO x.dst o.dst) || (isW P o && anc))
/-- May the operation 'i' come next in the plan, behind 'pre'? -/
def mayNext (ol : List Oper) (an : List (List Nat)) (pre : List Nat) (i : Nat) (o : Oper) : Bool :=
  !mem i pre && sub (waits o) pre && (isW P o || !memO o.dst (looks ol o)) && (!isAl o.op || o.dst.isSome) &&
  (allD ol pre fun d x => isW P x || fits P ol x o (mem d ((getN an i).getD []))) &&
  (!isW P o || (List.range ol.length).all fun j => mem j pre || Nat.beq j i || (match getN ol j with
    | some y => !sub (waits y) pre
    | none => false))
/-- What is to be looked at again behind a writer, or a new variable. -/
def again (ol : List Oper) (an : List (List Nat)) (pre : List Nat) (i : Nat) (o : Oper) : List Nat := pre.filter fun d => (isAl o.op || !(mem d ((getN an i).getD []))) && (match getN ol d with
  | some x => !isW P x
  | none => false)
/-- The next one: a quiet one if there is one. -/
def pickN (ol : List Oper) (pre : List Nat) : Option Nat := match (List.range ol.length).find? (fun i => !mem i pre && (match getN ol i with
    | some o => sub (waits o) pre && !isW P o
    | none => false)) with
  | some i => some i
  | none => (List.range ol.length).find? (fun i => !mem i pre && (match getN ol i with
    | some o => sub (waits o) pre
    | none => false))
def planFrom (ol : List Oper) (an : List (List Nat)) : Nat → List Nat → Option (List (Nat × List Nat))
  | 0, pre => cond ((List.range ol.length).all fun j => mem j pre) (some []) none
  | f + 1, pre => cond ((List.range ol.length).all fun j => mem j pre) (some [])
    (match pickN P ol pre with
    | some i => match getN ol i with
      | some o => cond (mayNext P ol an pre i o) (match planFrom ol an f (i :: pre) with
        | some r => some ((i, again P ol an pre i o) :: r)
        | none => none) none
      | none => none
    | none => none)
def planOf (ol : List Oper) : Option (List (Nat × List Nat)) := planFrom P ol (ancs ol) ol.length []
/-- Does an operation that is quiet still yield what it yielded? -/
def still (ol : List Oper) (st : St) : List Nat → Bool
  | [] => true
  | d :: l => (match getN ol d with
    | some o => match wantedA ol st.fr o with
      | some true => match o.op with
        | .alloc _ => match o.dst with
          | some t => match st.fr.get t with
            | some (.p _ _) => true
            | _ => false
          | none => false
        | op => match evQ P op st.fr st.A, o.dst with
          | some v, some t => match st.fr.get t with
            | some v' => ceq' v v'
            | none => false
          | some _, none => true
          | none, _ => false
      | some false => match o.dst with
        | some t => match st.fr.get t with
          | some (.t []) => true
          | _ => false
        | none => true
      | none => false
    | none => false) && still ol st l
def evPlan (ihs : Nat → Task → Option Res) (ol : List Oper) (n : Nat) : List (Nat × List Nat) → St → Option St
  | [], st => some st
  | (i, re) :: l, st => match getN ol i with
    | some o => match wantedA ol st.fr o with
      | some true => match evOp P exts (ihs i) n o st with
        | some st' => cond (!(isW P o || isAl o.op) || still P ol st' re) (evPlan ihs ol n l st') none
        | none => none
      | some false => match doN n o st with
        | some st' => cond (!(isW P o || isAl o.op) || still P ol st' re) (evPlan ihs ol n l st') none
        | none => none
      | none => none
    | none => none

/-! ### Code and calls -/
def resA (fr : T CV) (A : AW) : List ResultVar → Option (List CV)
  | [] => some []
  | .tmp t :: l => match fr.get t, resA fr A l with
    | some v, some vs => some (v :: vs)
    | _, _ => none
  | .cell a t :: l => match fr.get a with
    | some (.p b o) => match loadA P A t b o, resA fr A l with
      | some v, some vs => some (v :: vs)
      | _, _ => none
    | _ => none
def tupA : List CV → CV
  | [v] => v
  | l => .t l
def frOf : Nat → List CV → T CV → T CV
  | _, [], fr => fr
  | i, v :: l, fr => frOf (Nat.succ i) l (T.up fr i (some v))
def step : Task → Option Res
  | .code c n st => match c with
    | .skip => some (.code .normal st)
    | .label _ => some (.code .normal st)
    | .region _ ops draw => cond draw
      (match planOf P ops.toList with
      | some pl => match evPlan P exts (fun _ => ih) ops.toList n pl st with
        | some st' => some (.code .normal st')
        | none => none
      | none => none)
      (match evOps P exts ih ops.toList n ops.toList st with
      | some st' => some (.code .normal st')
      | none => none)
    | .seq a b => match ih (.code a n st) with
      | some (.code .normal st') => ih (.code b n st')
      | r => r
    | .cond x a b => match opVal st.fr x with
      | some (.b t) => ih (.code (cond t a b) n st)
      | _ => none
    | .block id b => match ih (.code b n st) with
      | some (.code (.exit i) st') => cond (Nat.beq i id) (some (.code .normal st')) (some (.code (.exit i) st'))
      | r => r
    | .loop b => match ih (.code b n st) with
      | some (.code .normal st') => ih (.code (.loop b) n st')
      | r => r
    | .exit id => some (.code (.exit id) st)
    | .goto l => some (.code (.goto l) st)
    | .ret => some (.code .ret st)
    | _ => none
  | .call f vs A => match P.funcs[f]? with
    | some fn => match fn.body with
      | some c => forceNat (Nat.max fn.ntmps (lenN vs)) fun n => cond (Nat.blt n 1000000) (match ih (.code c n ⟨frOf 0 vs .e, A⟩) with
        | some (.code .normal st') => match resA P st'.fr st'.A fn.results.toList with
          | some l => some (.val (tupA l) st'.A)
          | none => none
        | some (.code .ret st') => match resA P st'.fr st'.A fn.results.toList with
          | some l => some (.val (tupA l) st'.A)
          | none => none
        | _ => none) none
      | none => none
    | none => none
end
def ev (exts : List (Nat × Ext)) (fuel : Nat) : Task → Option Res :=
  Nat.rec (motive := fun _ => Task → Option Res) (fun _ => none) (fun _ ih => step P exts ih) fuel
end
end Go.Ce
