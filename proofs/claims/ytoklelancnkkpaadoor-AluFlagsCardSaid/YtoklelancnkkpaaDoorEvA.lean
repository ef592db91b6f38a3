/-
  An abstract interpreter of the loaded program: its definitions. Nothing is proved here.
-/
import GoSem.Dispatch
import GoSem.Machine.Return
import Derived.KernelRfl
set_option autoImplicit false
set_option linter.unusedVariables false
namespace Ev
open Go

/-! # Ev: an abstract interpreter of the loaded program. Definitions. -/

/-- One cell's contents. -/
inductive Cl where
  | val (v : Value)
  | bad
  | ptr (i off : Nat)
  | dptr (i off idx sz fo : Nat)
  | gs (i sz st len : Nat)
  | sl (i off sz st len cap : Nat)
  | fn (f : FuncId) (caps : List Cl)
  | ifc (t : TypeId) (v : Cl)

/-- A run of cells: one; n integers; n rows of sz cells. -/
inductive Seg where
  | c (x : Cl)
  | ri (n : Nat) (k : IntKind) (f : Nat → Int)
  | r (n sz : Nat) (f : Nat → List Value)

inductive AC where
  | one (x : Cl)
  | agg (l : List Seg)

inductive AV where
  | ac (x : AC)
  | tup (l : List AC)
  | top

structure Blk where
  mu : Bool
  esz : Nat
  segs : List Seg

abbrev Heap := List Blk
abbrev Fr := List AV

def undefA : AV := .tup []
abbrev AV.v (v : Value) : AV := .ac (.one (.val v))
abbrev AV.int (k : IntKind) (n : Int) : AV := .ac (.one (.val (.int k n)))
abbrev AV.bool (b : Bool) : AV := .ac (.one (.val (.bool b)))

/-! ## Words -/
def upd {β : Type} (f : Nat → β) (i : Nat) (v : β) : Nat → β := fun j => bif Nat.beq j i then v else f j

def bAnd (k : IntKind) (x y : Int) : Int := k.wrap (BitVec.ofInt k.bits x &&& BitVec.ofInt k.bits y).toNat
def bOr (k : IntKind) (x y : Int) : Int := k.wrap (BitVec.ofInt k.bits x ||| BitVec.ofInt k.bits y).toNat
def bXor (k : IntKind) (x y : Int) : Int := k.wrap (BitVec.ofInt k.bits x ^^^ BitVec.ofInt k.bits y).toNat
def bAndNot (k : IntKind) (x y : Int) : Int := k.wrap (BitVec.ofInt k.bits x &&& ~~~ BitVec.ofInt k.bits y).toNat
def iShl (k : IntKind) (x y : Int) : Int := k.wrap (x * 2 ^ (min y.toNat k.bits))
def iShr (k : IntKind) (x y : Int) : Int := x.fdiv (2 ^ (min y.toNat k.bits))
def iLe (x y : Int) : Bool :=
  match x, y with
  | .ofNat a, .ofNat b => Nat.ble a b
  | .negSucc _, .ofNat _ => true
  | .ofNat _, .negSucc _ => false
  | .negSucc a, .negSucc b => Nat.ble b a
def iLt (x y : Int) : Bool :=
  match x, y with
  | .ofNat a, .ofNat b => Nat.blt a b
  | .negSucc _, .ofNat _ => true
  | .ofNat _, .negSucc _ => false
  | .negSucc a, .negSucc b => Nat.blt b a
theorem iLe_eq (x y : Int) : iLe x y = decide (x ≤ y) := by
  cases x <;> cases y <;> simp only [iLe]
  · rw [Bool.eq_iff_iff, Nat.ble_eq, decide_eq_true_eq]; simp
  · simp; omega
  · simp; omega
  · rw [Bool.eq_iff_iff, Nat.ble_eq, decide_eq_true_eq]; omega
theorem iLt_eq (x y : Int) : iLt x y = decide (x < y) := by
  cases x <;> cases y <;> simp only [iLt]
  · rw [Bool.eq_iff_iff, Nat.blt_eq, decide_eq_true_eq]; simp
  · simp; omega
  · simp; omega
  · rw [Bool.eq_iff_iff, Nat.blt_eq, decide_eq_true_eq]; omega
def iMax (x y : Int) : Int := if y > x then y else x
def iMin (x y : Int) : Int := if y < x then y else x
def inB (i : Int) (n : Nat) : Bool := decide (0 ≤ i ∧ i < n)
def inBle (i : Int) (n : Nat) : Bool := decide (0 ≤ i ∧ i ≤ n)
def byteAt (s : ByteArray) (i : Nat) : Int := match s[i]? with | some b => b.toNat | none => 0
def allEq (n : Nat) (f g : Nat → Int) : Bool := (List.range n).all fun j => f j == g j
def nLe (x y : Nat) : Bool := decide (x ≤ y)

/-! ## Lists -/
section
variable {α β : Type}

def getK : List α → Nat → Option β → (α → Option β) → Option β
  | [], _, e, _ => e
  | x :: _, 0, _, K => K x
  | _ :: l, n + 1, e, K => getK l n e K

def setK : List α → Nat → α → (List α → Option β) → Option β
  | [], _, _, K => K []
  | _ :: l, 0, v, K => K (v :: l)
  | x :: l, n + 1, v, K => setK l n v fun l' => K (x :: l')

def snocK : List α → α → (List α → Option β) → Option β
  | [], x, K => K [x]
  | y :: l, x, K => snocK l x fun l' => K (y :: l')

def mapK (g : α → α) : List α → (List α → Option β) → Option β
  | [], K => K []
  | x :: l, K => mapK g l fun l' => K (g x :: l')

def optK (o : Option α) (K : α → Option β) : Option β :=
  match o with
  | some x => K x
  | none => none

def ifK (b : Bool) (x : Option β) : Option β := if b then x else none
end

def lookup {α : Type} : List (Nat × α) → Nat → Option α
  | [], _ => none
  | (a, b) :: l, i => if Nat.beq a i then some b else lookup l i

def lookupL {α : Type} : List (Nat × List α) → Nat → List α
  | [], _ => []
  | (a, b) :: l, i => if Nat.beq a i then b else lookupL l i

def minN (a b : Nat) : Nat := if Nat.ble a b then a else b
def far : Nat := 1000000

/-! ## Segments -/
def Seg.len : Seg → Nat
  | .c _ => 1
  | .ri n _ _ => n
  | .r n sz _ => n * sz

def totLen : List Seg → Nat
  | [] => 0
  | s :: l => s.len + totLen l

def takeS : List Seg → Nat → Option (List Seg)
  | [], n => if Nat.beq n 0 then some [] else none
  | s :: l, n => if Nat.beq n 0 then some [] else if Nat.ble s.len n then match takeS l (n - s.len) with | some r => some (s :: r) | none => none else none

def dropS : List Seg → Nat → Option (List Seg)
  | [], n => if Nat.beq n 0 then some [] else none
  | s :: l, n => if Nat.beq n 0 then some (s :: l) else if Nat.ble s.len n then dropS l (n - s.len) else none

def cellAt : List Seg → Nat → Option Cl
  | [], _ => none
  | .c x :: l, o => if Nat.beq o 0 then some x else cellAt l (o - 1)
  | .ri n k f :: l, o => if Nat.ble n o then cellAt l (o - n) else some (.val (.int k (f o)))
  | .r n sz _ :: l, o => if Nat.ble (n * sz) o then cellAt l (o - n * sz) else none

/-- the segment that begins at a static place -/
def segAt : List Seg → Nat → Option Seg
  | [], _ => none
  | s :: l, o => if Nat.beq o 0 then some s else if Nat.ble s.len o then segAt l (o - s.len) else none

def arrLen (l : List Seg) (o : Nat) : Option Nat :=
  match segAt l o with
  | some (.ri n _ _) => some n
  | some (.r n _ _) => some n
  | _ => none

def putAt : List Seg → Nat → Seg → Option (List Seg)
  | [], _, _ => none
  | s :: l, o, s' => if Nat.beq o 0 then some (s' :: l) else if Nat.ble s.len o then match putAt l (o - s.len) s' with | some r => some (s :: r) | none => none else none

/-- one cell is put at a static place -/
def putCell : List Seg → Nat → Cl → Option (List Seg)
  | [], _, _ => none
  | .c y :: l, o, x => if Nat.beq o 0 then some (.c x :: l) else match putCell l (o - 1) x with | some r => some (.c y :: r) | none => none
  | .ri n k f :: l, o, x => if Nat.ble n o then match putCell l (o - n) x with | some r => some (.ri n k f :: r) | none => none else
    match x with
    | .val (.int k' v) => if k = k' then some (.ri n k (upd f o v) :: l) else none
    | _ => none
  | .r n sz f :: l, o, x => if Nat.ble (n * sz) o then match putCell l (o - n * sz) x with | some r => some (.r n sz f :: r) | none => none else none

/-- do the two have the same shape? (cells may take the place of integers, not the other way round) -/
def fitS : List Seg → List Seg → Bool
  | [], [] => true
  | .c _ :: l, .c _ :: m => fitS l m
  | .ri n k _ :: l, .ri n' k' _ :: m => if Nat.beq n n' then (if k = k' then fitS l m else false) else false
  | .r n sz _ :: l, .r n' sz' _ :: m => if Nat.beq n n' then (if Nat.beq sz sz' then fitS l m else false) else false
  | _, _ => false

/-- segments are put at a static place, over ones of the same shape -/
def putSegs : List Seg → Nat → List Seg → Option (List Seg)
  | l, 0, new => match takeS l (totLen new), dropS l (totLen new) with
    | some a, some b => if fitS a new then some (new ++ b) else none
    | _, _ => none
  | [], _ + 1, _ => none
  | s :: l, o + 1, new => if Nat.ble s.len (o + 1) then match putSegs l (o + 1 - s.len) new with | some r => some (s :: r) | none => none else none

def valsOf : List Seg → Option (List Value)
  | [] => some []
  | .c (.val v) :: l => match valsOf l with | some r => some (v :: r) | none => none
  | _ :: _ => none

def setVs : List Value → Nat → List Value → List Value
  | l, _, [] => l
  | [], _, _ => []
  | _ :: l, 0, x :: xs => x :: setVs l 0 xs
  | y :: l, o + 1, xs => y :: setVs l o xs

def AC.segs : AC → List Seg
  | .one x => [.c x]
  | .agg l => l

def isAggB (P : Program) (t : TypeId) : Option Bool :=
  match P.underlying t with
  | some (.struct _) | some (.array _ _) => some true
  | some _ => some false
  | none => none

/-- what a load of type t at a static place reads -/
def loadS (P : Program) (t : TypeId) (segs : List Seg) (o : Nat) : Option AC :=
  match P.info? t, isAggB P t with
  | some i, some true => match dropS segs o with
    | some l => match takeS l i.size with | some r => some (.agg r) | none => none
    | none => none
  | some _, some false => match cellAt segs o with | some x => some (.one x) | none => none
  | _, _ => none

/-- .. within a row -/
def loadE (P : Program) (t : TypeId) (e : List Value) (fo : Nat) : Option AC :=
  match P.info? t, isAggB P t with
  | some i, some true => let r := (e.drop fo).take i.size
    if Nat.beq r.length i.size then some (.agg (r.map fun v => .c (.val v))) else none
  | some _, some false => match e[fo]? with | some x => some (.one (.val x)) | none => none
  | _, _ => none

/-- .. at element idx of the array that begins at o -/
def loadD (P : Program) (t : TypeId) (segs : List Seg) (o idx sz fo : Nat) : Option AC :=
  match segAt segs o with
  | some (.ri _ k f) => match isAggB P t, P.info? t with
    | some false, some _ => if Nat.beq sz 1 then (if Nat.beq fo 0 then some (.one (.val (.int k (f idx)))) else none) else none
    | _, _ => none
  | some (.r _ sz' f) => if Nat.beq sz sz' then loadE P t (f idx) fo else none
  | _ => loadS P t segs (o + idx * sz + fo)

def storeS (segs : List Seg) (o : Nat) : AC → Option (List Seg)
  | .one x => putCell segs o x
  | .agg l => putSegs segs o l

def storeD (segs : List Seg) (o idx sz fo : Nat) (v : AC) : Option (List Seg) :=
  match segAt segs o with
  | some (.ri n k f) => match v with
    | .one (.val (.int k' x)) => if Nat.beq sz 1 then (if Nat.beq fo 0 then (if k = k' then putAt segs o (.ri n k (upd f idx x)) else none) else none) else none
    | _ => none
  | some (.r n sz' f) => if Nat.beq sz sz' then match valsOf v.segs with
    | some xs => if Nat.ble (fo + xs.length) sz then putAt segs o (.r n sz (upd f idx (setVs (f idx) fo xs))) else none
    | none => none else none
  | _ => storeS segs (o + idx * sz + fo) v

/-! ## Zero values -/
def reps (l : List Seg) : Nat → List Seg
  | 0 => []
  | n + 1 => l ++ reps l n

def zeroS (P : Program) : Nat → TypeId → Option (List Seg)
  | 0, _ => none
  | d + 1, t => match P.underlying t with
    | some .bool => some [.c (.val (.bool false))]
    | some (.int k) => some [.c (.val (.int k 0))]
    | some .string => some [.c (.val (.string ⟨#[]⟩))]
    | some (.pointer _) => some [.c (.val (.pointer none))]
    | some (.slice _) => some [.c (.val (.slice none 0 0))]
    | some (.func _ _ _) => some [.c (.val .nilFunc)]
    | some (.interface _) => some [.c (.val .nilIface)]
    | some (.array n e) => match P.underlying e with
      | some (.int k) => some [.ri n k fun _ => 0]
      | _ => match zeroS P d e with | some l => some (reps l n) | none => none
    | some (.struct fs) => go (zeroS P d) fs.toList
    | _ => none
where
  go (z : TypeId → Option (List Seg)) : List Field → Option (List Seg)
    | [] => some []
    | f :: fs => match z f.type, go z fs with
      | some a, some b => some (a ++ b)
      | _, _ => none

def zeroA0 (P : Program) (t : TypeId) : Option AC :=
  match zeroS P 32 t, isAggB P t with
  | some l, some true => some (.agg l)
  | some [.c x], some false => some (.one x)
  | _, _ => none

/-- of the types that the program's table lists -/
def zeroA (P : Program) (t : TypeId) : Option AC := if Nat.blt t P.types.size then zeroA0 P t else none

def allB {α : Type} (p : α → Bool) : List α → Bool
  | [] => true
  | x :: l => if p x then allB p l else false

def oneB : Value → Bool
  | .agg _ | .tuple _ => false
  | _ => true

def constA : Value → Option AC
  | .agg cs => if allB oneB cs.toList then some (.agg (cs.toList.map fun v => .c (.val v))) else none
  | .tuple _ => none
  | v => some (.one (.val v))

/-! ## References -/
def refs (i : Nat) : Cl → Bool
  | .val _ | .bad => false
  | .ptr j _ | .dptr j _ _ _ _ | .gs j _ _ _ | .sl j _ _ _ _ _ => Nat.beq i j
  | .fn _ cs => go cs
  | .ifc _ v => refs i v
where
  go : List Cl → Bool
    | [] => false
    | x :: l => if refs i x then true else go l

def clBelow (n : Nat) : Cl → Bool
  | .val _ | .bad => true
  | .ptr j _ | .dptr j _ _ _ _ | .gs j _ _ _ | .sl j _ _ _ _ _ => Nat.blt j n
  | .fn _ cs => go cs
  | .ifc _ v => clBelow n v
where
  go : List Cl → Bool
    | [] => true
    | x :: l => if clBelow n x then go l else false

def segBelow (n : Nat) : Seg → Bool
  | .c x => clBelow n x
  | _ => true

def acBelow (n : Nat) (x : AC) : Bool := allB (segBelow n) x.segs
def avBelow (n : Nat) : AV → Bool
  | .ac x => acBelow n x
  | .tup l => allB (acBelow n) l
  | .top => true
def blkBelow (n : Nat) (b : Blk) : Bool := allB (segBelow n) b.segs
def heapBelow (n : Nat) : Nat → Heap → Bool
  | 0, _ => true
  | _, [] => true
  | m + 1, b :: h => if blkBelow n b then heapBelow n m h else false

def anyRef : List Nat → Cl → Bool
  | [], _ => false
  | i :: l, x => if refs i x then true else anyRef l x

def psCl (m : List Nat) (x : Cl) : Cl := if anyRef m x then .bad else x
def psSegs (m : List Nat) : List Seg → List Seg
  | [] => []
  | .c x :: l => .c (psCl m x) :: psSegs m l
  | s :: l => s :: psSegs m l
def psAC (m : List Nat) : AC → AC
  | .one x => .one (psCl m x)
  | .agg l => .agg (psSegs m l)
def psAV (m : List Nat) : AV → AV
  | .ac x => .ac (psAC m x)
  | .tup l => .tup (l.map (psAC m))
  | .top => .top
def psBlk (m : List Nat) (b : Blk) : Blk := { b with segs := psSegs m b.segs }

/-! ## Operators -/
def isNil : Cl → Option Bool
  | .val (.pointer none) | .val .nilFunc | .val .nilIface | .val (.slice none _ _) => some true
  | .ptr _ _ | .dptr _ _ _ _ _ | .fn _ _ | .ifc _ _ => some false
  | _ => none

def eqPtr (x y : Cl) : Option Bool :=
  match x, y with
  | .val (.pointer none), .val (.pointer none) => some true
  | .val (.pointer none), .ptr _ _ | .val (.pointer none), .dptr _ _ _ _ _ | .ptr _ _, .val (.pointer none) | .dptr _ _ _ _ _, .val (.pointer none) => some false
  | _, _ => none

def eqSl (x y : Cl) : Option Bool :=
  match x, y with
  | .val (.slice none _ _), .val (.slice none _ _) => some true
  | _, _ => none

def eqFn (x y : Cl) : Option Bool :=
  match x, y with
  | .val .nilFunc, .val .nilFunc => some true
  | .val .nilFunc, .fn _ _ | .fn _ _, .val .nilFunc => some false
  | _, _ => none

def eqIf (x y : Cl) : Option Bool :=
  match x, y with
  | .val .nilIface, .val .nilIface => some true
  | .val .nilIface, .ifc _ _ | .ifc _ _, .val .nilIface => some false
  | _, _ => none

def andO (a : Option Bool) (b : Option Bool) : Option Bool :=
  match a, b with
  | some x, some y => some (x && y)
  | _, _ => none

def eqFieldsT (eq : TypeId → AC → AC → Option Bool) (P : Program) (l m : List Seg) : List Field → Option Bool
  | [] => some true
  | f :: fs => if f.name == "_" then none else match loadS P f.type l f.offset, loadS P f.type m f.offset with
    | some x, some y => match fs with
      | [] => eq f.type x y
      | fs => andO (eq f.type x y) (eqFieldsT eq P l m fs)
    | _, _ => none

def eqElemsT (eq : AC → AC → Option Bool) (P : Program) (e : TypeId) (sz : Nat) (l m : List Seg) : Nat → Nat → Option Bool
  | 0, _ => some true
  | n + 1, i => match loadS P e l (i * sz), loadS P e m (i * sz) with
    | some x, some y => andO (eq x y) (eqElemsT eq P e sz l m n (i + 1))
    | _, _ => none

/-- equality by a type -/
def eqT (P : Program) : Nat → TypeId → AC → AC → Option Bool
  | 0, _, _, _ => none
  | d + 1, t, x, y =>
    match P.underlying t with
    | some .bool => match x, y with
      | .one (.val (.bool a)), .one (.val (.bool b)) => some (a == b)
      | _, _ => none
    | some (.int _) => match x, y with
      | .one (.val (.int k a)), .one (.val (.int k' b)) => if k = k' then some (a == b) else none
      | _, _ => none
    | some .string => match x, y with
      | .one (.val (.string a)), .one (.val (.string b)) => some (a == b)
      | _, _ => none
    | some (.struct fs) => match x, y with
      | .agg l, .agg m => if P.stoodInHeld t then none else eqFieldsT (eqT P d) P l m fs.toList
      | _, _ => none
    | some (.array n e) => match x, y with
      | .agg [.ri n' k f], .agg [.ri n'' k' g] => if Nat.beq n n' then (if Nat.beq n n'' then (if k = k' then (match P.underlying e, P.info? e with
        | some (.int _), some i => if Nat.beq d 0 then none else if Nat.beq i.size 1 then some (allEq n f g) else none
        | _, _ => none) else none) else none) else none
      | .agg l, .agg m => match P.info? e with
        | some i => eqElemsT (eqT P d e) P e i.size l m n 0
        | none => none
      | _, _ => none
    | some (.pointer _) => match x, y with
      | .one a, .one b => eqPtr a b
      | _, _ => none
    | some (.slice _) => match x, y with
      | .one a, .one b => eqSl a b
      | _, _ => none
    | some (.func _ _ _) => match x, y with
      | .one a, .one b => eqFn a b
      | _, _ => none
    | some (.interface _) => match x, y with
      | .one a, .one b => eqIf a b
      | _, _ => none
    | _ => none

section
variable {β : Type}
def psFrK (m : List Nat) (fr : Fr) (K : Fr → Option β) : Option β :=
  match m with
  | [] => K fr
  | i :: l => mapK (psAV (i :: l)) fr K

def binI (op : BinOp) (k : IntKind) (a b : Int) (K : AV → Option β) : Option β :=
  match op with
  | .add => K (.int k (k.wrap (a + b)))
  | .sub => K (.int k (k.wrap (a - b)))
  | .mul => K (.int k (k.wrap (a * b)))
  | .quo => cond (b == 0) none (K (.int k (k.wrap (a.tdiv b))))
  | .rem => cond (b == 0) none (K (.int k (a.tmod b)))
  | .and => K (.int k (bAnd k a b))
  | .or => K (.int k (bOr k a b))
  | .xor => K (.int k (bXor k a b))
  | .andNot => K (.int k (bAndNot k a b))
  | .eql => K (.bool (a == b))
  | .neq => K (.bool (a != b))
  | .lss => K (.bool (iLt a b))
  | .leq => K (.bool (iLe a b))
  | .gtr => K (.bool (iLt b a))
  | .geq => K (.bool (iLe b a))
  | _ => none

def eqOp (op : BinOp) (b : Bool) (K : AV → Option β) : Option β :=
  match op with
  | .eql => K (.bool b)
  | .neq => K (.bool !b)
  | _ => none

/-- may '==' of two nils of an interface be asked? (one of them must be the literal) -/
def nilOk (lit : Bool) (x y : AC) : Bool :=
  match x, y with
  | .one (.val .nilIface), .one (.val .nilIface) => lit
  | _, _ => true

def litOp : Operand → Bool
  | .const _ => true
  | _ => false

def binA (P : Program) (op : BinOp) (t : TypeId) (lit : Bool) (x y : AC) (K : AV → Option β) : Option β :=
  match x, y with
  | .one (.val (.int k a)), .one (.val (.int k' b)) =>
    match op with
    | .shl => cond (iLt b 0) none (K (.int k (iShl k a b)))
    | .shr => cond (iLt b 0) none (K (.int k (iShr k a b)))
    | _ => if k = k' then binI op k a b K else none
  | .one (.val (.string a)), .one (.val (.string b)) => eqOp op (a.toList == b.toList) K
  | .agg l, .agg m => if P.eqGuardType P.depth t then none else optK (eqT P 10000 t (.agg l) (.agg m)) fun b => eqOp op b K
  | x, y => if nilOk lit x y then optK (eqT P 10000 t x y) fun b => eqOp op b K else none

def unA (op : UnOp) (x : AC) (K : AV → Option β) : Option β :=
  match op, x with
  | .neg, .one (.val (.int k a)) => K (.int k (k.wrap (0 - a)))
  | .xor, .one (.val (.int k a)) => K (.int k (bXor k (if k.signed then -1 else k.max) a))
  | .not, .one (.val (.bool b)) => K (.bool !b)
  | _, _ => none

def convA (P : Program) (src dst : TypeId) (x : AC) (K : AV → Option β) : Option β :=
  match P.underlying src, P.underlying dst, x with
  | some (.int _), some (.int k), .one (.val (.int _ n)) => K (.int k (k.wrap n))
  | _, _, _ => none

structure Cfg where
  P : Program
  glob : List (Nat × Nat)

def evalK (C : Cfg) (fr : Fr) (x : Operand) (K : AV → Option β) : Option β :=
  match x with
  | .tmp t => getK fr t none K
  | .const v => optK (constA v) fun x => K (.ac x)
  | .global g => optK (lookup C.glob g) fun i => K (.ac (.one (.ptr i 0)))
  | .func f => K (.ac (.one (.fn f [])))

/-- an operand that is no tuple -/
def evalC (C : Cfg) (fr : Fr) (x : Operand) (K : AC → Option β) : Option β :=
  evalK C fr x fun
    | .ac y => K y
    | _ => none

def evalsK (C : Cfg) (fr : Fr) : List Operand → (List AC → Option β) → Option β
  | [], K => K []
  | x :: xs, K => evalC C fr x fun v => evalsK C fr xs fun vs => K (v :: vs)

def partsK (C : Cfg) (fr : Fr) : List (Nat × Operand) → (List (Nat × AC) → Option β) → Option β
  | [], K => K []
  | (i, x) :: xs, K => evalC C fr x fun v => partsK C fr xs fun vs => K ((i, v) :: vs)

def onesOf : List AC → Option (List Cl)
  | [] => some []
  | .one x :: l => match onesOf l with | some r => some (x :: r) | none => none
  | _ :: _ => none

def setParts (place : Nat → Option (Nat × Nat)) : List (Nat × AC) → List Seg → Option (List Seg)
  | [], l => some l
  | (i, v) :: r, l => match place i with
    | some (off, size) => if Nat.beq (totLen v.segs) size then match storeS l off v with
      | some l' => setParts place r l'
      | none => none else none
    | none => none

def placeOf (P : Program) (fs : Array Field) (i : Nat) : Option (Nat × Nat) :=
  match fs[i]? with
  | some f => (match P.info? f.type with
    | some j => some (f.offset, j.size)
    | none => none)
  | none => none

def buildK (P : Program) (t : TypeId) (ps : List (Nat × AC)) (K : AC → Option β) : Option β :=
  match zeroA P t, P.underlying t with
  | some (.agg z), some (.struct fs) => ifK (allB (fun f => (P.info? f.type).isSome) fs.toList)
    (optK (setParts (placeOf P fs) ps z) fun l => K (.agg l))
  | some (.agg z), some (.array _ e) => optK (P.info? e) fun j => optK (setParts (fun i => some (i * j.size, j.size)) ps z) fun l => K (.agg l)
  | _, _ => none

structure St where
  fr : Fr
  h : Heap
  wr : Nat
  mv : List Nat

/-- what a call or an operation hands on: its value, the heap, the first block written, the blocks moved, whether the heap is another -/
abbrev KR (β : Type) := AV → Heap → Nat → List Nat → Bool → Option β
abbrev Call (β : Type) := FuncId → List AV → Heap → KR β → Option β

def addBlk (h : Heap) (b : Blk) (K : Nat → Heap → Option β) : Option β := snocK h b fun h' => K h.length h'

def newK (h : Heap) (x : AC) (K : KR β) : Option β :=
  addBlk h ⟨true, 0, x.segs⟩ fun i h' => K (.ac (.one (.ptr i 0))) h' far [] true

def loadK (P : Program) (h : Heap) (t : TypeId) (a : AC) (K : AC → Option β) : Option β :=
  match a with
  | .one (.ptr i off) => getK h i none fun b => optK (loadS P t b.segs off) K
  | .one (.dptr i off idx sz fo) => getK h i none fun b => optK (loadD P t b.segs off idx sz fo) K
  | _ => none

def storeK (P : Program) (h : Heap) (t : TypeId) (a v : AC) (K : Nat → Heap → Option β) : Option β :=
  optK (P.info? t) fun ti => ifK (Nat.beq ti.size (totLen v.segs)) (match a with
  | .one (.ptr i off) => getK h i none fun b => ifK b.mu (optK (storeS b.segs off v) fun l =>
      setK h i { b with segs := l } fun h' => K i h')
  | .one (.dptr i off idx sz fo) => getK h i none fun b => ifK b.mu (ifK (!Nat.beq (totLen v.segs) 0) (optK (storeD b.segs off idx sz fo v) fun l =>
      setK h i { b with segs := l } fun h' => K i h'))
  | _ => none)

def fieldK (P : Program) (s : TypeId) (f : Nat) (K : Field → Option β) : Option β :=
  match P.underlying s with
  | some (.struct fs) => optK fs[f]? K
  | _ => none

def fieldAddrK (P : Program) (fd : Field) (a : AC) (K : AC → Option β) : Option β :=
  optK (P.info? fd.type) fun i => ifK (!Nat.beq i.size 0) (match a with
  | .one (.ptr i off) => K (.one (.ptr i (off + fd.offset)))
  | .one (.dptr i off idx sz fo) => K (.one (.dptr i off idx sz (fo + fd.offset)))
  | _ => none)

/-- is the array at a static place as long as its type says? -/
def lenOk (segs : List Seg) (off len : Nat) : Bool :=
  match arrLen segs off with
  | some m => Nat.ble len m
  | none => true

def indexAddrK (P : Program) (h : Heap) (t : TypeId) (a : AC) (n : Int) (K : AC → Option β) : Option β :=
  match P.underlying t, a with
  | some (.array len e), .one (.ptr i off) => optK (P.info? e) fun ei => getK h i none fun b => ifK (lenOk b.segs off len) (cond (inB n len) (K (.one (.dptr i off n.toNat ei.size 0))) none)
  | some (.array len e), .one (.dptr i off idx sz fo) => optK (P.info? e) fun ei => cond (inB n len) (K (.one (.dptr i off idx sz (fo + n.toNat * ei.size)))) none
  | some (.slice e), .one (.gs i sz st len) => optK (P.info? e) fun ei => ifK (Nat.beq ei.size sz) (cond (inB n len) (K (.one (.dptr i 0 (st + n.toNat) sz 0))) none)
  | some (.slice e), .one (.sl i off sz st len _) => optK (P.info? e) fun ei => ifK (Nat.beq ei.size sz) (cond (inB n len) (K (.one (.dptr i off (st + n.toNat) sz 0))) none)
  | _, _ => none

def indexK (P : Program) (t : TypeId) (a : AC) (n : Int) (K : AC → Option β) : Option β :=
  match P.underlying t, a with
  | some (.array len e), .agg l => optK (P.info? e) fun ei => ifK (lenOk l 0 len) (cond (inB n len) (optK (loadD P e l 0 n.toNat ei.size 0) K) none)
  | some .string, .one (.val (.string s)) => cond (inB n s.size) (K (.one (.val (.int .u8 (byteAt s n.toNat))))) none
  | _, _ => none

def intK (x : AC) (K : Int → Option β) : Option β :=
  match x with
  | .one (.val (.int _ n)) => K n
  | _ => none

def boolK (x : AC) (K : Bool → Option β) : Option β :=
  match x with
  | .one (.val (.bool b)) => K b
  | _ => none

/-- one operation -/
def evOp (C : Cfg) (call : Call β) (o : Oper) (fr : Fr) (h : Heap) (K : KR β) : Option β :=
  let v (x : AV) : Option β := K x h far [] false
  let w (x : AC) : Option β := K (.ac x) h far [] false
  match o.op with
  | .move x | .assign x => evalK C fr x v
  | .pick c a b => evalC C fr c fun t => boolK t fun t => evalK C fr a fun x => evalK C fr b fun y => cond t (v x) (v y)
  | .alloc t => optK (zeroA C.P t) fun z => newK h z K
  | .box _ x => evalC C fr x fun z => newK h z K
  | .build t parts => partsK C fr parts.toList fun ps => buildK C.P t ps w
  | .load t a => evalC C fr a fun a => loadK C.P h t a w
  | .store t a x => evalC C fr a fun a => evalC C fr x fun y => storeK C.P h t a y fun i h' => K undefA h' i [] true
  | .nilCheck x => evalC C fr x fun
    | .one x => optK (isNil x) fun b => if b then none else w (.one x)
    | _ => none
  | .binOp op t x y _ => evalC C fr x fun a => evalC C fr y fun b => binA C.P op t (if litOp x then true else litOp y) a b v
  | .unOp op _ x => evalC C fr x fun a => unA op a v
  | .convert src dst x => evalC C fr x fun a => convA C.P src dst a v
  | .makeFunc (.func f) first caps => ifK first.isEmpty (evalsK C fr caps.toList fun l => optK (onesOf l) fun cs => w (.one (.fn f cs)))
  | .fieldAddr s x f => fieldK C.P s f fun fd => evalC C fr x fun a => fieldAddrK C.P fd a w
  | .field s x f => fieldK C.P s f fun fd => evalC C fr x fun
    | .agg l => optK (loadS C.P fd.type l fd.offset) w
    | _ => none
  | .indexAddr t x ix => evalC C fr x fun a => evalC C fr ix fun n => intK n fun n => indexAddrK C.P h t a n w
  | .index t x ix => evalC C fr x fun a => evalC C fr ix fun n => intK n fun n => indexK C.P t a n w
  | .extract t ix => evalK C fr t fun
    | .tup l => optK l[ix]? w
    | _ => none
  | .call c => match c.callee with
    | .value f => evalC C fr f fun
      | .one (.fn g caps) => evalsK C fr c.args.toList fun args => call g (args.map .ac ++ caps.map fun x => .ac (.one x)) h K
      | _ => none
    | _ => none
  | _ => none

/-- a condition that is known now is noted in its slot -/
def noteK (fr : Fr) (c : Operand) (b : Bool) (K : Fr → Option β) : Option β :=
  match c with
  | .tmp t => setK fr t (.bool b) K
  | _ => K fr

/-- the value that a guard's operation has yielded -/
def guardK (ops : List Oper) (fr : Fr) (o : Oper) (yes no : Fr → Option β) : Option β :=
  match o.guard with
  | none => yes fr
  | some (j, want) => getK ops j none fun g => match g.dst with
    | some d => getK fr d none fun
      | .ac (.one (.val (.bool b))) => cond want (cond b (setK fr d (.bool true) yes) (setK fr d (.bool false) no)) (cond b (setK fr d (.bool true) no) (setK fr d (.bool false) yes))
      | .tup [] => no fr
      | _ => none
    | none => none

def putK (fr : Fr) (dst : Option Tmp) (x : AV) (K : Fr → Option β) : Option β :=
  match dst with
  | some d => setK fr d x K
  | none => K fr

def evOps (C : Cfg) (call : Call β) (ops : List Oper) : List Oper → St → List Bool → (St → List Bool → Option β) → Option β
  | [], st, fl, K => K st fl
  | o :: r, st, fl, K => guardK ops st.fr o
      (fun gr => evOp C call o gr st.h fun x h w m l => psFrK m gr fun fr => putK fr o.dst x fun fr => evOps C call ops r ⟨fr, h, minN st.wr w, m ++ st.mv⟩ (l :: fl) K)
      (fun gr => putK gr o.dst undefA fun fr => evOps C call ops r { st with fr } (false :: fl) K)

inductive Ex where
  | normal | exit (id : Nat) | goto (l : Nat) | ret

/-! ### the draw's check -/
def looks (ops : Array Oper) (o : Oper) : List Tmp :=
  (o.op.operands.toList.filterMap fun | .tmp t => some t | _ => none) ++
  (match o.guard with
   | some (g, _) => ((ops[g]?).bind (·.dst)).toList
   | none => [])

def memN : Nat → List Nat → Bool
  | _, [] => false
  | x, y :: l => if Nat.beq x y then true else memN x l

/-- the numbers of those that must come ahead -/
def predsOf (done : List (List Nat)) (o : Oper) : List Nat :=
  (o.after.toList.filter fun e => Region.binds .any e).flatMap fun e => e.on :: (done.getD e.on [])

def allPreds : List Oper → List (List Nat) → List (List Nat)
  | [], acc => acc
  | o :: r, acc => allPreds r (acc ++ [predsOf acc o])

def clash (ops : Array Oper) (i j : Oper) : Bool :=
  match i.dst with
  | some d => if memN d (looks ops j) then true else (match j.dst with | some e => if Nat.beq d e then true else memN e (looks ops i) | none => false)
  | none => match j.dst with
    | some e => memN e (looks ops i)
    | none => false

/-- operation j against all ahead of it -/
def pairOk (ops : Array Oper) (j : Oper) (lj : Bool) (pj : List Nat) : Nat → List (Oper × Bool) → Bool
  | _, [] => true
  | i, (oi, li) :: r => if memN i pj then pairOk ops j lj pj (i + 1) r else
      if lj then false else if li then false else if clash ops oi j then false else pairOk ops j lj pj (i + 1) r

def drawOkGo (ops : Array Oper) : List (Oper × Bool) → List (List Nat) → List (Oper × Bool) → Bool
  | _, _, [] => true
  | ahead, p :: ps, (o, l) :: r => if pairOk ops o l p 0 ahead then drawOkGo ops (ahead ++ [(o, l)]) ps r else false
  | _, [], _ => false

def edgesOk : Nat → List Oper → Bool
  | _, [] => true
  | j, o :: r => if allB (fun e => if Region.binds .any e then Nat.blt e.on j else true) o.after.toList then edgesOk (j + 1) r else false

def drawOk (ops : Array Oper) (fl : List Bool) : Bool :=
  if edgesOk 0 ops.toList then drawOkGo ops [] (allPreds ops.toList []) (ops.toList.zip fl.reverse) else false

def loopK (body : St → (Ex → St → Option β) → Option β) : Nat → St → (Ex → St → Option β) → Option β
  | 0, _, _ => none
  | k + 1, st, K => body st fun e st' => match e with
    | .normal => loopK body k st' K
    | e => K e st'

def scopeK (run : Code → St → (Ex → St → Option β) → Option β) (b : Code) : Nat → Code → St → (Ex → St → Option β) → Option β
  | 0, _, _, _ => none
  | k + 1, c, st, K => run c st fun e st' => match e with
    | .goto l => match findLabel b l with
      | some rest => scopeK run b k rest st' K
      | none => K (.goto l) st'
    | e => K e st'

def evC (C : Cfg) (call : Call β) (lf : Nat) : Nat → Code → St → (Ex → St → Option β) → Option β
  | 0, _, _, _ => none
  | n + 1, c, st, K => match c with
    | .skip | .label _ => K .normal st
    | .region _ ops draw => evOps C call ops.toList ops.toList st [] fun st fl => if draw then (if drawOk ops fl then K .normal st else none) else K .normal st
    | .seq a b => evC C call lf n a st fun e st => match e with
      | .normal => evC C call lf n b st K
      | e => K e st
    | .cond c a b => evalC C st.fr c fun t => boolK t fun t => cond t (noteK st.fr c true fun fr => evC C call lf n a { st with fr } K) (noteK st.fr c false fun fr => evC C call lf n b { st with fr } K)
    | .block id b => evC C call lf n b st fun e st => match e with
      | .exit id' => if Nat.beq id' id then K .normal st else K (.exit id') st
      | e => K e st
    | .loop b => loopK (evC C call lf n b) lf st K
    | .exit id => K (.exit id) st
    | .goto l => K (.goto l) st
    | .scope b => scopeK (evC C call lf n) b lf b st K
    | .ret => K .ret st
    | _ => none

def keepMv (n : Nat) : List Nat → List Nat
  | [] => []
  | i :: l => if Nat.blt i n then i :: keepMv n l else keepMv n l

abbrev LS := St → Option (Ex × St)
abbrev LT := List (Nat × LS)

/-- a code's loops' bodies, in the order of the text -/
def loopsOf : Code → List Code
  | .seq a b => loopsOf a ++ loopsOf b
  | .cond _ a b => loopsOf a ++ loopsOf b
  | .block _ b => loopsOf b
  | .loop b => b :: loopsOf b
  | _ => []

def nLoops (c : Code) : Nat := (loopsOf c).length

/-- evC with contracts of loops: i is the number of the code's first loop -/
def evCM (C : Cfg) (call : Call β) (T : LT) (lf : Nat) : Nat → Nat → Code → St → (Ex → St → Option β) → Option β
  | 0, _, _, _, _ => none
  | n + 1, i, c, st, K => match c with
    | .skip | .label _ => K .normal st
    | .region _ ops draw => evOps C call ops.toList ops.toList st [] fun st fl => if draw then (if drawOk ops fl then K .normal st else none) else K .normal st
    | .seq a b => evCM C call T lf n i a st fun e st => match e with
      | .normal => evCM C call T lf n (i + nLoops a) b st K
      | e => K e st
    | .cond c a b => evalC C st.fr c fun t => boolK t fun t => cond t (noteK st.fr c true fun fr => evCM C call T lf n i a { st with fr } K) (noteK st.fr c false fun fr => evCM C call T lf n (i + nLoops a) b { st with fr } K)
    | .block id b => evCM C call T lf n i b st fun e st => match e with
      | .exit id' => if Nat.beq id' id then K .normal st else K (.exit id') st
      | e => K e st
    | .loop b => match lookup T i with
      | some S => (S st).bind fun r => K r.1 r.2
      | none => loopK (evCM C call T lf n (i + 1) b) lf st K
    | .exit id => K (.exit id) st
    | .goto l => K (.goto l) st
    | .scope b => scopeK (evC C call lf n) b lf b st K
    | .ret => K .ret st
    | _ => none

/-- of a frame, what is kept -/
def keepF (keep : List Nat) : Nat → Fr → Fr
  | _, [] => []
  | i, x :: l => (if anyN i keep then x else .top) :: keepF keep (i + 1) l
where
  anyN (i : Nat) : List Nat → Bool
    | [] => false
    | j :: l => if Nat.beq i j then true else anyN i l

/-- a round's end: what is kept; the round's own blocks are forgotten -/
def cutSt (keep : List Nat) (s0 s : St) : St :=
  let fr := keepF keep 0 s.fr
  let n := s0.h.length
  let wr := minN s0.wr s.wr
  if Nat.beq s.h.length n then ⟨fr, s.h, wr, s.mv⟩
  else if allB (avBelow n) fr then (if heapBelow n n s.h then (if Nat.ble n s.h.length then ⟨fr, s.h.take n, wr, keepMv n s.mv⟩ else ⟨fr, s.h, wr, s.mv⟩) else ⟨fr, s.h, wr, s.mv⟩)
  else ⟨fr, s.h, wr, s.mv⟩

def resK (P : Program) (st : St) : List ResultVar → (List AC → Option β) → Option β
  | [], K => K []
  | .tmp t :: r, K => getK st.fr t none fun
    | .ac x => resK P st r fun l => K (x :: l)
    | _ => none
  | .cell a t :: r, K => getK st.fr a none fun
    | .ac a => loadK P st.h t a fun x => resK P st r fun l => K (x :: l)
    | _ => none

def mkRes (l : List AC) : AV :=
  match l with
  | [x] => .ac x
  | l => .tup l

/-- a function has come to its end: what is its own and is not handed out is forgotten -/
def retK (h0 : Heap) (st : St) (v : AV) (K : KR β) : Option β :=
  let base := h0.length
  if avBelow base v then
    if Nat.ble base st.wr then (match st.mv with
      | [] => K v h0 far [] false
      | m => K v st.h st.wr (keepMv base m) true)
    else if heapBelow base base st.h then K v (st.h.take base) st.wr (keepMv base st.mv) true
    else K v st.h st.wr (keepMv base st.mv) true
  else K v st.h st.wr (keepMv base st.mv) true

def evFn (C : Cfg) (call : Call β) (Λ : List (Nat × LT)) (lf n : Nat) (f : FuncId) (args : List AV) (h : Heap) (K : KR β) : Option β :=
  optK C.P.funcs[f]? fun fn => optK fn.body fun body =>
    evCM C call (lookupL Λ f) lf n 0 body ⟨args ++ List.replicate (fn.ntmps - args.length) undefA, h, far, []⟩ fun e st => match e with
      | .normal | .ret => resK C.P st fn.results.toList fun l => retK h st (mkRes l) K
      | _ => none

structure SR where
  v : AV
  h : Heap
  wr : Nat
  mv : List Nat
  loud : Bool

abbrev Summ := List AV → Heap → Option SR

/-- what is known: functions' summaries, loops' contracts -/
structure Known where
  fs : List (Nat × Summ)
  ls : List (Nat × LT)

def evCall (C : Cfg) (Φ : Known) (lf : Nat) : Nat → Call β
  | 0, _, _, _, _ => none
  | d + 1, f, args, h, K => match lookup Φ.fs f with
    | some S => (S args h).bind fun r => K r.v r.h r.wr r.mv r.loud
    | none => evFn C (evCall C Φ lf d) Φ.ls lf 1000 f args h K
end

def ev (C : Cfg) (Φ : Known) (lf : Nat) (f : FuncId) : Summ :=
  fun args h => evFn C (evCall C Φ lf 20) Φ.ls lf 1000 f args h fun v h w m l => some ⟨v, h, w, m, l⟩

/-- the body of function f's loop k -/
def loopAt (P : Program) (f k : Nat) : Option Code :=
  match P.funcs[f]? with
  | some fn => (match fn.body with
    | some c => (loopsOf c)[k]?
    | none => none)
  | none => none

/-- a round of function f's loop k -/
def evL (C : Cfg) (Φ : Known) (lf : Nat) (f k : Nat) (keep : List Nat) (s : St) : Option (Ex × St) :=
  optK (loopAt C.P f k) fun L => evCM C (evCall C Φ lf 20) (lookupL Φ.ls f) lf 1000 (k + 1) L s fun e s' => some (e, cutSt keep s s')

end Ev
