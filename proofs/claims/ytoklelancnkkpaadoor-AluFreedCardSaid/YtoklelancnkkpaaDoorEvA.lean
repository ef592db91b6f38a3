/-
  An abstract interpreter of the loaded program: its definitions. Nothing is proved here.
-/
import GoSem.Dispatch
import GoSem.Machine.Return
import Derived.KernelRfl
set_option autoImplicit false
set_option linter.unusedVariables false
set_option linter.unusedSimpArgs false
namespace Ev
open Go

/-! # Ev: an abstract interpreter of the loaded program. Definitions. -/

/-- One cell's contents. -/
inductive Cl where
  | val (v : Value)
  | bad
  | ptr (i off : Nat)
  | dptr (i off idx sz fo : Nat)
  | gs (i sz st len : Nat)
  | sl (i off sz st len cap : Nat)
  | fn (f : FuncId) (caps : List Cl)
  | ifc (t : TypeId) (v : Cl)

/-- A run of cells: one; n integers; n rows of sz cells. -/
inductive Seg where
  | c (x : Cl)
  | ri (n : Nat) (k : IntKind) (f : Nat → Int)
  | r (n sz : Nat) (f : Nat → List Value)

inductive AC where
  | one (x : Cl)
  | agg (l : List Seg)

inductive AV where
  | ac (x : AC)
  | tup (l : List AC)
  | top

structure Blk where
  mu : Bool
  esz : Nat
  segs : List Seg

abbrev Heap := List Blk
abbrev Fr := List AV

def undefA : AV := .tup []
abbrev AV.v (v : Value) : AV := .ac (.one (.val v))
abbrev AV.int (k : IntKind) (n : Int) : AV := .ac (.one (.val (.int k n)))
abbrev AV.bool (b : Bool) : AV := .ac (.one (.val (.bool b)))

/-! ## Words -/
def upd {β : Type} (f : Nat → β) (i : Nat) (v : β) : Nat → β := fun j => bif Nat.beq j i then v else f j

def bAnd (k : IntKind) (x y : Int) : Int := k.wrap (BitVec.ofInt k.bits x &&& BitVec.ofInt k.bits y).toNat
def bOr (k : IntKind) (x y : Int) : Int := k.wrap (BitVec.ofInt k.bits x ||| BitVec.ofInt k.bits y).toNat
def bXor (k : IntKind) (x y : Int) : Int := k.wrap (BitVec.ofInt k.bits x ^^^ BitVec.ofInt k.bits y).toNat
def bAndNot (k : IntKind) (x y : Int) : Int := k.wrap (BitVec.ofInt k.bits x &&& ~~~ BitVec.ofInt k.bits y).toNat
def iShl (k : IntKind) (x y : Int) : Int := k.wrap (x * 2 ^ (min y.toNat k.bits))
def iShr (k : IntKind) (x y : Int) : Int := x.fdiv (2 ^ (min y.toNat k.bits))
def iLe (x y : Int) : Bool :=
  match x, y with
  | .ofNat a, .ofNat b => Nat.ble a b
  | .negSucc _, .ofNat _ => true
  | .ofNat _, .negSucc _ => false
  | .negSucc a, .negSucc b => Nat.ble b a
def iLt (x y : Int) : Bool :=
  match x, y with
  | .ofNat a, .ofNat b => Nat.blt a b
  | .negSucc _, .ofNat _ => true
  | .ofNat _, .negSucc _ => false
  | .negSucc a, .negSucc b => Nat.blt b a
theorem iLe_eq (x y : Int) : iLe x y = decide (x ≤ y) := by
  cases x <;> cases y <;> simp only [iLe]
  · rw [Bool.eq_iff_iff, Nat.ble_eq, decide_eq_true_eq]; simp
  · simp; omega
  · simp; omega
  · rw [Bool.eq_iff_iff, Nat.ble_eq, decide_eq_true_eq]; omega
theorem iLt_eq (x y : Int) : iLt x y = decide (x < y) := by
  cases x <;> cases y <;> simp only [iLt]
  · rw [Bool.eq_iff_iff, Nat.blt_eq, decide_eq_true_eq]; simp
  · simp; omega
  · simp; omega
  · rw [Bool.eq_iff_iff, Nat.blt_eq, decide_eq_true_eq]; omega
def iMax (x y : Int) : Int := if y > x then y else x
def iMin (x y : Int) : Int := if y < x then y else x
def inB (i : Int) (n : Nat) : Bool := decide (0 ≤ i ∧ i < n)
def inBle (i : Int) (n : Nat) : Bool := decide (0 ≤ i ∧ i ≤ n)
def byteAt (s : ByteArray) (i : Nat) : Int := match s[i]? with | some b => b.toNat | none => 0
def allEq (n : Nat) (f g : Nat → Int) : Bool := (List.range n).all fun j => f j == g j
def nLe (x y : Nat) : Bool := decide (x ≤ y)

/-! ## Lists -/
section
variable {α β : Type}

def getK : List α → Nat → Option β → (α → Option β) → Option β
  | [], _, e, _ => e
  | x :: _, 0, _, K => K x
  | _ :: l, n + 1, e, K => getK l n e K

def setK : List α → Nat → α → (List α → Option β) → Option β
  | [], _, _, K => K []
  | _ :: l, 0, v, K => K (v :: l)
  | x :: l, n + 1, v, K => setK l n v fun l' => K (x :: l')

def snocK : List α → α → (List α → Option β) → Option β
  | [], x, K => K [x]
  | y :: l, x, K => snocK l x fun l' => K (y :: l')

def mapK (g : α → α) : List α → (List α → Option β) → Option β
  | [], K => K []
  | x :: l, K => mapK g l fun l' => K (g x :: l')

def optK (o : Option α) (K : α → Option β) : Option β :=
  match o with
  | some x => K x
  | none => none

def ifK (b : Bool) (x : Option β) : Option β := if b then x else none
end

def lookup {α : Type} : List (Nat × α) → Nat → Option α
  | [], _ => none
  | (a, b) :: l, i => if Nat.beq a i then some b else lookup l i

def lookupL {α : Type} : List (Nat × List α) → Nat → List α
  | [], _ => []
  | (a, b) :: l, i => if Nat.beq a i then b else lookupL l i

def minN (a b : Nat) : Nat := if Nat.ble a b then a else b
def far : Nat := 1000000

/-! ## Segments -/
def Seg.len : Seg → Nat
  | .c _ => 1
  | .ri n _ _ => n
  | .r n sz _ => n * sz

def totLen : List Seg → Nat
  | [] => 0
  | s :: l => s.len + totLen l

def takeS : List Seg → Nat → Option (List Seg)
  | [], n => if Nat.beq n 0 then some [] else none
  | s :: l, n => if Nat.beq n 0 then some [] else if Nat.ble s.len n then match takeS l (n - s.len) with | some r => some (s :: r) | none => none else none

def dropS : List Seg → Nat → Option (List Seg)
  | [], n => if Nat.beq n 0 then some [] else none
  | s :: l, n => if Nat.beq n 0 then some (s :: l) else if Nat.ble s.len n then dropS l (n - s.len) else none

def cellAt : List Seg → Nat → Option Cl
  | [], _ => none
  | .c x :: l, o => if Nat.beq o 0 then some x else cellAt l (o - 1)
  | .ri n k f :: l, o => if Nat.ble n o then cellAt l (o - n) else some (.val (.int k (f o)))
  | .r n sz _ :: l, o => if Nat.ble (n * sz) o then cellAt l (o - n * sz) else none

/-- the segment that begins at a static place -/
def segAt : List Seg → Nat → Option Seg
  | [], _ => none
  | s :: l, o => if Nat.beq o 0 then some s else if Nat.ble s.len o then segAt l (o - s.len) else none

def arrLen (l : List Seg) (o : Nat) : Option Nat :=
  match segAt l o with
  | some (.ri n _ _) => some n
  | some (.r n _ _) => some n
  | _ => none

def putAt : List Seg → Nat → Seg → Option (List Seg)
  | [], _, _ => none
  | s :: l, o, s' => if Nat.beq o 0 then some (s' :: l) else if Nat.ble s.len o then match putAt l (o - s.len) s' with | some r => some (s :: r) | none => none else none

/-- one cell is put at a static place -/
def putCell : List Seg → Nat → Cl → Option (List Seg)
  | [], _, _ => none
  | .c y :: l, o, x => if Nat.beq o 0 then some (.c x :: l) else match putCell l (o - 1) x with | some r => some (.c y :: r) | none => none
  | .ri n k f :: l, o, x => if Nat.ble n o then match putCell l (o - n) x with | some r => some (.ri n k f :: r) | none => none else
    match x with
    | .val (.int k' v) => if k = k' then some (.ri n k (upd f o v) :: l) else none
    | _ => none
  | .r n sz f :: l, o, x => if Nat.ble (n * sz) o then match putCell l (o - n * sz) x with | some r => some (.r n sz f :: r) | none => none else none

/-- do the two have the same shape? (cells may take the place of integers, not the other way round) -/
def fitS : List Seg → List Seg → Bool
  | [], [] => true
  | .c _ :: l, .c _ :: m => fitS l m
  | .ri n k _ :: l, .ri n' k' _ :: m => if Nat.beq n n' then (if k = k' then fitS l m else false) else false
  | .r n sz _ :: l, .r n' sz' _ :: m => if Nat.beq n n' then (if Nat.beq sz sz' then fitS l m else false) else false
  | _, _ => false

/-- segments are put at a static place, over ones of the same shape -/
def putSegs : List Seg → Nat → List Seg → Option (List Seg)
  | l, 0, new => match takeS l (totLen new), dropS l (totLen new) with
    | some a, some b => if fitS a new then some (new ++ b) else none
    | _, _ => none
  | [], _ + 1, _ => none
  | s :: l, o + 1, new => if Nat.ble s.len (o + 1) then match putSegs l (o + 1 - s.len) new with | some r => some (s :: r) | none => none else none

def valsOf : List Seg → Option (List Value)
  | [] => some []
  | .c (.val v) :: l => match valsOf l with | some r => some (v :: r) | none => none
  | _ :: _ => none

def setVs : List Value → Nat → List Value → List Value
  | l, _, [] => l
  | [], _, _ => []
  | _ :: l, 0, x :: xs => x :: setVs l 0 xs
  | y :: l, o + 1, xs => y :: setVs l o xs

def AC.segs : AC → List Seg
  | .one x => [.c x]
  | .agg l => l

def isAggB (P : Program) (t : TypeId) : Option Bool :=
  match P.underlying t with
  | some (.struct _) | some (.array _ _) => some true
  | some _ => some false
  | none => none

/-- what a load of type t at a static place reads -/
def loadS (P : Program) (t : TypeId) (segs : List Seg) (o : Nat) : Option AC :=
  match P.info? t, isAggB P t with
  | some i, some true => match dropS segs o with
    | some l => match takeS l i.size with | some r => some (.agg r) | none => none
    | none => none
  | some _, some false => match cellAt segs o with | some x => some (.one x) | none => none
  | _, _ => none

/-- .. within a row -/
def loadE (P : Program) (t : TypeId) (e : List Value) (fo : Nat) : Option AC :=
  match P.info? t, isAggB P t with
  | some i, some true => let r := (e.drop fo).take i.size
    if Nat.beq r.length i.size then some (.agg (r.map fun v => .c (.val v))) else none
  | some _, some false => match e[fo]? with | some x => some (.one (.val x)) | none => none
  | _, _ => none

/-- .. at element idx of the array that begins at o -/
def loadD (P : Program) (t : TypeId) (segs : List Seg) (o idx sz fo : Nat) : Option AC :=
  match segAt segs o with
  | some (.ri _ k f) => match isAggB P t, P.info? t with
    | some false, some _ => if Nat.beq sz 1 then (if Nat.beq fo 0 then some (.one (.val (.int k (f idx)))) else none) else none
    | _, _ => none
  | some (.r _ sz' f) => if Nat.beq sz sz' then loadE P t (f idx) fo else none
  | _ => loadS P t segs (o + idx * sz + fo)

def storeS (segs : List Seg) (o : Nat) : AC → Option (List Seg)
  | .one x => putCell segs o x
  | .agg l => putSegs segs o l

def storeD (segs : List Seg) (o idx sz fo : Nat) (v : AC) : Option (List Seg) :=
  match segAt segs o with
  | some (.ri n k f) => match v with
    | .one (.val (.int k' x)) => if Nat.beq sz 1 then (if Nat.beq fo 0 then (if k = k' then putAt segs o (.ri n k (upd f idx x)) else none) else none) else none
    | _ => none
  | some (.r n sz' f) => if Nat.beq sz sz' then match valsOf v.segs with
    | some xs => if Nat.ble (fo + xs.length) sz then putAt segs o (.r n sz (upd f idx (setVs (f idx) fo xs))) else none
    | none => none else none
  | _ => storeS segs (o + idx * sz + fo) v

/-! ## Zero values -/
def reps (l : List Seg) : Nat → List Seg
  | 0 => []
  | n + 1 => l ++ reps l n

def zeroS (P : Program) : Nat → TypeId → Option (List Seg)
  | 0, _ => none
  | d + 1, t => match P.underlying t with
    | some .bool => some [.c (.val (.bool false))]
    | some (.int k) => some [.c (.val (.int k 0))]
    | some .string => some [.c (.val (.string ⟨#[]⟩))]
    | some (.pointer _) => some [.c (.val (.pointer none))]
    | some (.slice _) => some [.c (.val (.slice none 0 0))]
    | some (.func _ _ _) => some [.c (.val .nilFunc)]
    | some (.interface _) => some [.c (.val .nilIface)]
    | some (.array n e) => match P.underlying e with
      | some (.int k) => some [.ri n k fun _ => 0]
      | _ => match zeroS P d e with | some l => some (reps l n) | none => none
    | some (.struct fs) => go (zeroS P d) fs.toList
    | _ => none
where
  go (z : TypeId → Option (List Seg)) : List Field → Option (List Seg)
    | [] => some []
    | f :: fs => match z f.type, go z fs with
      | some a, some b => some (a ++ b)
      | _, _ => none

def zeroA0 (P : Program) (t : TypeId) : Option AC :=
  match zeroS P 32 t, isAggB P t with
  | some l, some true => some (.agg l)
  | some [.c x], some false => some (.one x)
  | _, _ => none

/-- of the types that the program's table lists -/
def zeroA (P : Program) (t : TypeId) : Option AC := if Nat.blt t P.types.size then zeroA0 P t else none

def allB {α : Type} (p : α → Bool) : List α → Bool
  | [] => true
  | x :: l => if p x then allB p l else false

def oneB : Value → Bool
  | .agg _ | .tuple _ => false
  | _ => true

def constA : Value → Option AC
  | .agg cs => if allB oneB cs.toList then some (.agg (cs.toList.map fun v => .c (.val v))) else none
  | .tuple _ => none
  | v => some (.one (.val v))

/-! ## References -/
/-- the blocks that a cell refers to -/
def refsCl : Cl → List Nat
  | .val _ | .bad => []
  | .ptr j _ | .dptr j _ _ _ _ | .gs j _ _ _ | .sl j _ _ _ _ _ => [j]
  | .fn _ cs => go cs
  | .ifc _ v => refsCl v
where
  go : List Cl → List Nat
    | [] => []
    | x :: l => refsCl x ++ go l

def refsSegs : List Seg → List Nat
  | [] => []
  | .c x :: l => refsCl x ++ refsSegs l
  | _ :: l => refsSegs l

def refsACs : List AC → List Nat
  | [] => []
  | x :: l => refsSegs x.segs ++ refsACs l

def refsAV : AV → List Nat
  | .ac x => refsSegs x.segs
  | .tup l => refsACs l
  | .top => []

def refsAVs : List AV → List Nat
  | [] => []
  | x :: l => refsAV x ++ refsAVs l

def memN : Nat → List Nat → Bool
  | _, [] => false
  | x, y :: l => if Nat.beq x y then true else memN x l

def insN (x : Nat) (l : List Nat) : List Nat := if memN x l then l else x :: l

def unionN : List Nat → List Nat → List Nat
  | [], m => m
  | x :: l, m => insN x (unionN l m)

def rangeN : Nat → List Nat
  | 0 => []
  | n + 1 => rangeN n ++ [n]

def belowB (n : Nat) : List Nat → Bool
  | [] => true
  | x :: l => if Nat.blt x n then belowB n l else false

/-- those of l that are below n -/
def lowN (n : Nat) : List Nat → List Nat
  | [] => []
  | x :: l => if Nat.blt x n then x :: lowN n l else lowN n l

/-- those below n that stand in l, in order -/
def sortN (n : Nat) (l : List Nat) : List Nat := go (rangeN n)
where
  go : List Nat → List Nat
    | [] => []
    | x :: r => if memN x l then x :: go r else go r

def posFrom : List Nat → Nat → Nat → Option Nat
  | [], _, _ => none
  | y :: l, x, i => if Nat.beq y x then some i else posFrom l x (i + 1)
def posN (l : List Nat) (x : Nat) : Option Nat := posFrom l x 0

/-- the blocks that are met from a list on, behind those that were met already -/
def visit : Nat → Heap → List Nat → List Nat → List Nat
  | 0, _, _, acc => acc
  | _ + 1, _, [], acc => acc
  | n + 1, h, x :: l, acc => if memN x acc then visit n h l acc else match h[x]? with
    | some b => visit n h (refsSegs b.segs ++ l) (acc ++ [x])
    | none => visit n h l acc

def renCl (ρ : Nat → Option Nat) : Cl → Cl
  | .val v => .val v
  | .bad => .bad
  | .ptr j off => match ρ j with | some k => .ptr k off | none => .bad
  | .dptr j off idx sz fo => match ρ j with | some k => .dptr k off idx sz fo | none => .bad
  | .gs j sz st len => match ρ j with | some k => .gs k sz st len | none => .bad
  | .sl j off sz st len cap => match ρ j with | some k => .sl k off sz st len cap | none => .bad
  | .fn f cs => .fn f (go ρ cs)
  | .ifc t v => .ifc t (renCl ρ v)
where
  go (ρ : Nat → Option Nat) : List Cl → List Cl
    | [] => []
    | x :: l => renCl ρ x :: go ρ l

def renSegs (ρ : Nat → Option Nat) : List Seg → List Seg
  | [] => []
  | .c x :: l => .c (renCl ρ x) :: renSegs ρ l
  | s :: l => s :: renSegs ρ l
def renAC (ρ : Nat → Option Nat) : AC → AC
  | .one x => .one (renCl ρ x)
  | .agg l => .agg (renSegs ρ l)
def renACs (ρ : Nat → Option Nat) : List AC → List AC
  | [] => []
  | x :: l => renAC ρ x :: renACs ρ l
def renAV (ρ : Nat → Option Nat) : AV → AV
  | .ac x => .ac (renAC ρ x)
  | .tup l => .tup (renACs ρ l)
  | .top => .top
def renAVs (ρ : Nat → Option Nat) : List AV → List AV
  | [] => []
  | x :: l => renAV ρ x :: renAVs ρ l
def renBlk (ρ : Nat → Option Nat) (b : Blk) : Blk := { b with segs := renSegs ρ b.segs }

/-! ## Operators -/
def isNil : Cl → Option Bool
  | .val (.pointer none) | .val .nilFunc | .val .nilIface | .val (.slice none _ _) => some true
  | .ptr _ _ | .dptr _ _ _ _ _ | .fn _ _ | .ifc _ _ | .val (.iface _ _) => some false
  | _ => none

def eqPtr (x y : Cl) : Option Bool :=
  match x, y with
  | .val (.pointer none), .val (.pointer none) => some true
  | .val (.pointer none), .ptr _ _ | .val (.pointer none), .dptr _ _ _ _ _ | .ptr _ _, .val (.pointer none) | .dptr _ _ _ _ _, .val (.pointer none) => some false
  | _, _ => none

def eqSl (x y : Cl) : Option Bool :=
  match x, y with
  | .val (.slice none _ _), .val (.slice none _ _) => some true
  | .val (.slice none _ _), .sl _ _ _ _ _ _ | .sl _ _ _ _ _ _, .val (.slice none _ _) => some false
  | _, _ => none

def eqFn (x y : Cl) : Option Bool :=
  match x, y with
  | .val .nilFunc, .val .nilFunc => some true
  | .val .nilFunc, .fn _ _ | .fn _ _, .val .nilFunc => some false
  | _, _ => none

def eqIf (x y : Cl) : Option Bool :=
  match x, y with
  | .val .nilIface, .val .nilIface => some true
  | .val .nilIface, .ifc _ _ | .ifc _ _, .val .nilIface | .val .nilIface, .val (.iface _ _) | .val (.iface _ _), .val .nilIface => some false
  | _, _ => none

def andO (a : Option Bool) (b : Option Bool) : Option Bool :=
  match a, b with
  | some x, some y => some (x && y)
  | _, _ => none

def eqFieldsT (eq : TypeId → AC → AC → Option Bool) (P : Program) (l m : List Seg) : List Field → Option Bool
  | [] => some true
  | f :: fs => if f.name == "_" then none else match loadS P f.type l f.offset, loadS P f.type m f.offset with
    | some x, some y => match fs with
      | [] => eq f.type x y
      | fs => andO (eq f.type x y) (eqFieldsT eq P l m fs)
    | _, _ => none

def eqElemsT (eq : AC → AC → Option Bool) (P : Program) (e : TypeId) (sz : Nat) (l m : List Seg) : Nat → Nat → Option Bool
  | 0, _ => some true
  | n + 1, i => match loadS P e l (i * sz), loadS P e m (i * sz) with
    | some x, some y => andO (eq x y) (eqElemsT eq P e sz l m n (i + 1))
    | _, _ => none

/-- equality by a type -/
def eqT (P : Program) : Nat → TypeId → AC → AC → Option Bool
  | 0, _, _, _ => none
  | d + 1, t, x, y =>
    match P.underlying t with
    | some .bool => match x, y with
      | .one (.val (.bool a)), .one (.val (.bool b)) => some (a == b)
      | _, _ => none
    | some (.int _) => match x, y with
      | .one (.val (.int k a)), .one (.val (.int k' b)) => if k = k' then some (a == b) else none
      | _, _ => none
    | some .string => match x, y with
      | .one (.val (.string a)), .one (.val (.string b)) => some (a == b)
      | _, _ => none
    | some (.struct fs) => match x, y with
      | .agg l, .agg m => if P.stoodInHeld t then none else eqFieldsT (eqT P d) P l m fs.toList
      | _, _ => none
    | some (.array n e) => match x, y with
      | .agg [.ri n' k f], .agg [.ri n'' k' g] => if Nat.beq n n' then (if Nat.beq n n'' then (if k = k' then (match P.underlying e, P.info? e with
        | some (.int _), some i => if Nat.beq d 0 then none else if Nat.beq i.size 1 then some (allEq n f g) else none
        | _, _ => none) else none) else none) else none
      | .agg l, .agg m => match P.info? e with
        | some i => eqElemsT (eqT P d e) P e i.size l m n 0
        | none => none
      | _, _ => none
    | some (.pointer _) => match x, y with
      | .one a, .one b => eqPtr a b
      | _, _ => none
    | some (.slice _) => match x, y with
      | .one a, .one b => eqSl a b
      | _, _ => none
    | some (.func _ _ _) => match x, y with
      | .one a, .one b => eqFn a b
      | _, _ => none
    | some (.interface _) => match x, y with
      | .one a, .one b => eqIf a b
      | _, _ => none
    | _ => none

section
variable {β : Type}
def binI (op : BinOp) (k : IntKind) (a b : Int) (K : AV → Option β) : Option β :=
  match op with
  | .add => K (.int k (k.wrap (a + b)))
  | .sub => K (.int k (k.wrap (a - b)))
  | .mul => K (.int k (k.wrap (a * b)))
  | .quo => cond (b == 0) none (K (.int k (k.wrap (a.tdiv b))))
  | .rem => cond (b == 0) none (K (.int k (a.tmod b)))
  | .and => K (.int k (bAnd k a b))
  | .or => K (.int k (bOr k a b))
  | .xor => K (.int k (bXor k a b))
  | .andNot => K (.int k (bAndNot k a b))
  | .eql => K (.bool (a == b))
  | .neq => K (.bool (a != b))
  | .lss => K (.bool (iLt a b))
  | .leq => K (.bool (iLe a b))
  | .gtr => K (.bool (iLt b a))
  | .geq => K (.bool (iLe b a))
  | _ => none

def eqOp (op : BinOp) (b : Bool) (K : AV → Option β) : Option β :=
  match op with
  | .eql => K (.bool b)
  | .neq => K (.bool !b)
  | _ => none

/-- may '==' of two nils of an interface be asked? (one of them must be the literal) -/
def nilOk (lit : Bool) (x y : AC) : Bool :=
  match x, y with
  | .one (.val .nilIface), .one (.val .nilIface) => lit
  | _, _ => true

def litOp : Operand → Bool
  | .const _ => true
  | _ => false

/-- the bytes of a list of numbers -/
def mkBytes (n : Nat) (f : Nat → Int) : ByteArray := ⟨((List.range n).map fun j => UInt8.ofNat (f j).toNat).toArray⟩

def strA (op : BinOp) (a b : ByteArray) (K : AV → Option β) : Option β :=
  match op with
  | .add => cond (Nat.ble (a.size + b.size) 9223372036854775807) (K (.ac (.one (.val (.string (a ++ b)))))) none
  | .eql => K (.bool (a.toList == b.toList))
  | .neq => K (.bool !(a.toList == b.toList))
  | .lss => K (.bool (Op.bytesLess a.toList b.toList))
  | .leq => K (.bool (Op.bytesLess a.toList b.toList || a.toList == b.toList))
  | .gtr => K (.bool !(Op.bytesLess a.toList b.toList || a.toList == b.toList))
  | .geq => K (.bool !(Op.bytesLess a.toList b.toList))
  | _ => none

def binA (P : Program) (op : BinOp) (t : TypeId) (lit : Bool) (x y : AC) (K : AV → Option β) : Option β :=
  match x, y with
  | .one (.val (.int k a)), .one (.val (.int k' b)) =>
    match op with
    | .shl => cond (iLt b 0) none (K (.int k (iShl k a b)))
    | .shr => cond (iLt b 0) none (K (.int k (iShr k a b)))
    | _ => if k = k' then binI op k a b K else none
  | .one (.val (.string a)), .one (.val (.string b)) => strA op a b K
  | .agg l, .agg m => if P.eqGuardType P.depth t then none else optK (eqT P 10000 t (.agg l) (.agg m)) fun b => eqOp op b K
  | x, y => if nilOk lit x y then optK (eqT P 10000 t x y) fun b => eqOp op b K else none

def unA (op : UnOp) (x : AC) (K : AV → Option β) : Option β :=
  match op, x with
  | .neg, .one (.val (.int k a)) => K (.int k (k.wrap (0 - a)))
  | .xor, .one (.val (.int k a)) => K (.int k (bXor k (if k.signed then -1 else k.max) a))
  | .not, .one (.val (.bool b)) => K (.bool !b)
  | _, _ => none

def convA (P : Program) (src dst : TypeId) (x : AC) (K : AV → Option β) : Option β :=
  match P.underlying src, P.underlying dst, x with
  | some (.int _), some (.int k), .one (.val (.int _ n)) => K (.int k (k.wrap n))
  | _, _, _ => none

/-- the program; the package variables that lie in the first blocks; what the first of them hold -/
structure Cfg where
  P : Program
  glob : List Nat
  tabs : List (List Seg)

/-- segments without references -/
def plainB : List Seg → Bool
  | [] => true
  | .c (.val _) :: l => plainB l
  | .c _ :: _ => false
  | _ :: l => plainB l

def evalK (C : Cfg) (fr : Fr) (x : Operand) (K : AV → Option β) : Option β :=
  match x with
  | .tmp t => getK fr t none K
  | .const v => optK (constA v) fun x => K (.ac x)
  | .global g => optK (posN C.glob g) fun i => K (.ac (.one (.ptr i 0)))
  | .func f => K (.ac (.one (.fn f [])))

/-- an operand that is no tuple -/
def evalC (C : Cfg) (fr : Fr) (x : Operand) (K : AC → Option β) : Option β :=
  evalK C fr x fun
    | .ac y => K y
    | _ => none

def evalsK (C : Cfg) (fr : Fr) : List Operand → (List AC → Option β) → Option β
  | [], K => K []
  | x :: xs, K => evalC C fr x fun v => evalsK C fr xs fun vs => K (v :: vs)

def partsK (C : Cfg) (fr : Fr) : List (Nat × Operand) → (List (Nat × AC) → Option β) → Option β
  | [], K => K []
  | (i, x) :: xs, K => evalC C fr x fun v => partsK C fr xs fun vs => K ((i, v) :: vs)

def onesOf : List AC → Option (List Cl)
  | [] => some []
  | .one x :: l => match onesOf l with | some r => some (x :: r) | none => none
  | _ :: _ => none

def setParts (place : Nat → Option (Nat × Nat)) : List (Nat × AC) → List Seg → Option (List Seg)
  | [], l => some l
  | (i, v) :: r, l => match place i with
    | some (off, size) => if Nat.beq (totLen v.segs) size then match storeS l off v with
      | some l' => setParts place r l'
      | none => none else none
    | none => none

def placeOf (P : Program) (fs : Array Field) (i : Nat) : Option (Nat × Nat) :=
  match fs[i]? with
  | some f => (match P.info? f.type with
    | some j => some (f.offset, j.size)
    | none => none)
  | none => none

def buildK (P : Program) (t : TypeId) (ps : List (Nat × AC)) (K : AC → Option β) : Option β :=
  match zeroA P t, P.underlying t with
  | some (.agg z), some (.struct fs) => ifK (allB (fun f => (P.info? f.type).isSome) fs.toList)
    (optK (setParts (placeOf P fs) ps z) fun l => K (.agg l))
  | some (.agg z), some (.array _ e) => optK (P.info? e) fun j => optK (setParts (fun i => some (i * j.size, j.size)) ps z) fun l => K (.agg l)
  | _, _ => none

structure St where
  fr : Fr
  h : Heap
  ws : List Nat

/-- what a call or an operation hands on: its value, the heap, the blocks written, whether the heap is another -/
abbrev KR (β : Type) := AV → Heap → List Nat → Bool → Option β
abbrev Call (β : Type) := FuncId → List AV → Heap → KR β → Option β

def addBlk (h : Heap) (b : Blk) (K : Nat → Heap → Option β) : Option β := snocK h b fun h' => K h.length h'

def newK (h : Heap) (x : AC) (K : KR β) : Option β :=
  addBlk h ⟨true, 0, x.segs⟩ fun i h' => K (.ac (.one (.ptr i 0))) h' [] true

def loadK (P : Program) (h : Heap) (t : TypeId) (a : AC) (K : AC → Option β) : Option β :=
  match a with
  | .one (.ptr i off) => getK h i none fun b => optK (loadS P t b.segs off) K
  | .one (.dptr i off idx sz fo) => getK h i none fun b => optK (loadD P t b.segs off idx sz fo) K
  | _ => none

def storeK (P : Program) (h : Heap) (t : TypeId) (a v : AC) (K : Nat → Heap → Option β) : Option β :=
  optK (P.info? t) fun ti => ifK (Nat.beq ti.size (totLen v.segs)) (match a with
  | .one (.ptr i off) => getK h i none fun b => ifK b.mu (optK (storeS b.segs off v) fun l =>
      setK h i { b with segs := l } fun h' => K i h')
  | .one (.dptr i off idx sz fo) => getK h i none fun b => ifK b.mu (ifK (!Nat.beq (totLen v.segs) 0) (optK (storeD b.segs off idx sz fo v) fun l =>
      setK h i { b with segs := l } fun h' => K i h'))
  | _ => none)

def fieldK (P : Program) (s : TypeId) (f : Nat) (K : Field → Option β) : Option β :=
  match P.underlying s with
  | some (.struct fs) => optK fs[f]? K
  | _ => none

def fieldAddrK (P : Program) (fd : Field) (a : AC) (K : AC → Option β) : Option β :=
  optK (P.info? fd.type) fun i => ifK (!Nat.beq i.size 0) (match a with
  | .one (.ptr i off) => K (.one (.ptr i (off + fd.offset)))
  | .one (.dptr i off idx sz fo) => K (.one (.dptr i off idx sz (fo + fd.offset)))
  | _ => none)

/-- is the array at a static place as long as its type says? -/
def lenOk (segs : List Seg) (off len : Nat) : Bool :=
  match arrLen segs off with
  | some m => Nat.ble len m
  | none => true

def indexAddrK (P : Program) (h : Heap) (t : TypeId) (a : AC) (n : Int) (K : AC → Option β) : Option β :=
  match P.underlying t, a with
  | some (.array len e), .one (.ptr i off) => optK (P.info? e) fun ei => getK h i none fun b => ifK (lenOk b.segs off len) (cond (inB n len) (K (.one (.dptr i off n.toNat ei.size 0))) none)
  | some (.array len e), .one (.dptr i off idx sz fo) => optK (P.info? e) fun ei => cond (inB n len) (K (.one (.dptr i off idx sz (fo + n.toNat * ei.size)))) none
  | some (.slice e), .one (.gs i sz st len) => optK (P.info? e) fun ei => ifK (Nat.beq ei.size sz) (cond (inB n len) (K (.one (.dptr i 0 (st + n.toNat) sz 0))) none)
  | some (.slice e), .one (.sl i off sz st len _) => optK (P.info? e) fun ei => ifK (Nat.beq ei.size sz) (cond (inB n len) (K (.one (.dptr i off (st + n.toNat) sz 0))) none)
  | _, _ => none

def indexK (P : Program) (t : TypeId) (a : AC) (n : Int) (K : AC → Option β) : Option β :=
  match P.underlying t, a with
  | some (.array len e), .agg l => optK (P.info? e) fun ei => ifK (lenOk l 0 len) (cond (inB n len) (optK (loadD P e l 0 n.toNat ei.size 0) K) none)
  | some .string, .one (.val (.string s)) => cond (inB n s.size) (K (.one (.val (.int .u8 (byteAt s n.toNat))))) none
  | _, _ => none

def intK (x : AC) (K : Int → Option β) : Option β :=
  match x with
  | .one (.val (.int _ n)) => K n
  | _ => none

def boolK (x : AC) (K : Bool → Option β) : Option β :=
  match x with
  | .one (.val (.bool b)) => K b
  | _ => none

/-! ### slices -/
/-- a run of elements: integers of a kind, rows of sz values -/
inductive Sq where
  | ri (k : IntKind) (f : Nat → Int)
  | r (sz : Nat) (f : Nat → List Value)

def Sq.sz : Sq → Nat
  | .ri _ _ => 1
  | .r sz _ => sz
def Sq.seg (n : Nat) : Sq → Seg
  | .ri k f => .ri n k f
  | .r sz f => .r n sz f

def sft {γ : Type} (st : Nat) (f : Nat → γ) : Nat → γ :=
  match st with
  | 0 => f
  | n + 1 => fun j => f (n + 1 + j)
def Sq.sft (st : Nat) : Sq → Sq
  | .ri k f => .ri k (Ev.sft st f)
  | .r sz f => .r sz (Ev.sft st f)

/-- n of the first, then the second -/
def catF {γ : Type} (n : Nat) (f g : Nat → γ) : Nat → γ := fun x => bif Nat.blt x n then f x else g (x - n)
/-- n of g from a on, within f -/
def overF {γ : Type} (a n : Nat) (f g : Nat → γ) : Nat → γ := fun x => bif Nat.blt x a then f x else bif Nat.blt x (a + n) then g (x - a) else f x

def catQ (n : Nat) : Sq → Sq → Option Sq
  | .ri k f, .ri k' g => if k = k' then some (.ri k (catF n f g)) else none
  | .r sz f, .r sz' g => if Nat.beq sz sz' then some (.r sz (catF n f g)) else none
  | _, _ => none
def overQ (a n : Nat) : Sq → Sq → Option Sq
  | .ri k f, .ri k' g => if k = k' then some (.ri k (overF a n f g)) else none
  | .r sz f, .r sz' g => if Nat.beq sz sz' then some (.r sz (overF a n f g)) else none
  | _, _ => none

/-- the run that begins at a static place: how long, what -/
def seqAt (segs : List Seg) (off sz : Nat) : Option (Nat × Sq) :=
  match segAt segs off with
  | some (.ri n k f) => if Nat.beq sz 1 then some (n, .ri k f) else none
  | some (.r n sz' f) => if Nat.beq sz sz' then some (n, .r sz f) else none
  | _ => none

def rowsOf (sz : Nat) (vs : List Value) : Nat → List Value := fun j => (vs.drop (j * sz)).take sz

/-- single cells as a run -/
def cellsSeq (segs : List Seg) (o sz len : Nat) : Option Sq :=
  match dropS segs o with
  | some l => (match takeS l (len * sz) with
    | some r => (match valsOf r with
      | some vs => some (.r sz (rowsOf sz vs))
      | none => none)
    | none => none)
  | none => none

/-- the elements of a slice or of a string -/
def elemsK (h : Heap) (sz : Nat) (x : AC) (K : Nat → Sq → Option β) : Option β :=
  match x with
  | .one (.gs i sz' st len) => ifK (Nat.beq sz sz') (getK h i none fun b => optK (seqAt b.segs 0 sz) fun q => K len (q.2.sft st))
  | .one (.sl i off sz' st len _) => ifK (Nat.beq sz sz') (getK h i none fun b =>
      match seqAt b.segs off sz with
      | some q => K len (q.2.sft st)
      | none => optK (cellsSeq b.segs (off + st * sz) sz len) fun q => K len q)
  | .one (.val (.string s)) => ifK (Nat.beq sz 1) (K s.size (.ri .u8 (byteAt s)))
  | _ => none

def roomB (n bytes : Nat) : Bool := Nat.ble (n * bytes) 140737488355328

/-- a new slice -/
def newGs (h : Heap) (sz n : Nat) (q : Sq) (ws : List Nat) (K : KR β) : Option β :=
  addBlk h ⟨true, sz, [q.seg n]⟩ fun i h' => K (.ac (.one (.gs i sz 0 n))) h' ws true

def newSl (h : Heap) (segs : List Seg) (sz len cap : Nat) (K : KR β) : Option β :=
  addBlk h ⟨true, 0, segs⟩ fun i h' => K (.ac (.one (.sl i 0 sz 0 len cap))) h' [] true

def isNilSl : AC → Bool
  | .one (.val (.slice none 0 0)) => true
  | _ => false

/-- do the second argument's kinds fit append's first? (a whole number stands for zeros) -/
def appTy (P : Program) (argTypes : Array TypeId) : Option (TypeInfo) :=
  match argTypes[0]?, argTypes[1]? with
  | some s, some t => match P.underlying s, P.underlying t with
    | some (.slice e), some (.slice _) => P.info? e
    | some (.slice e), some .string => P.info? e
    | _, _ => none
  | _, _ => none

/-- is the zero element as long as the type says? -/
def zeroLen (ei : TypeInfo) : Bool :=
  match ei.zero with
  | some z => if Nat.beq ei.size 0 then false else Nat.beq z.cells.size ei.size
  | none => false

def appendK (P : Program) (h : Heap) (argTypes : Array TypeId) (a x : AC) (K : KR β) : Option β :=
  optK (appTy P argTypes) fun ei => ifK (zeroLen ei) (ifK (!Nat.beq ei.bytes 0) (
    if isNilSl x then (match a with
      | .one (.val (.slice none 0 0)) | .one (.gs _ _ _ _) | .one (.sl _ _ _ _ _ _) => K (.ac a) h [] false
      | _ => none)
    else elemsK h ei.size x fun n q => match a with
      | .one (.val (.slice none 0 0)) => cond (roomB n ei.bytes) (newGs h ei.size n q [] K) none
      | .one (.gs i sz st len) => ifK (Nat.beq sz ei.size) (getK h i none fun b => ifK b.mu (optK (seqAt b.segs 0 sz) fun q0 => optK (catQ len (q0.2.sft st) q) fun q' =>
          cond (roomB (len + n) ei.bytes) (setK h i { b with segs := [] } fun h1 => newGs h1 sz (len + n) q' [i] K) none))
      | .one (.sl i off sz st len cap) => ifK (Nat.beq sz ei.size) (getK h i none fun b => ifK b.mu (optK (seqAt b.segs off sz) fun q0 =>
          cond (Nat.ble (len + n) cap)
            (optK (overQ (st + len) n q0.2 q) fun q' => cond (Nat.blt 0 n) (cond (Nat.ble (st + len + n) q0.1) (optK (putAt b.segs off (q'.seg q0.1)) fun l => setK h i { b with segs := l } fun h1 => K (.ac (.one (.sl i off sz st (len + n) cap))) h1 [i] true) none) none)
            (optK (catQ len (q0.2.sft st) q) fun q' => cond (roomB (len + n) ei.bytes) (newGs h sz (len + n) q' [] K) none)))
      | _ => none))

/-- the zero element's run -/
def zeroQ (P : Program) (e : TypeId) : Option Sq :=
  match zeroA P e with
  | some (.one (.val (.int k v))) => some (.ri k fun _ => v)
  | some z => (match valsOf z.segs with
    | some vs => some (.r vs.length fun _ => vs)
    | none => none)
  | none => none

def makeSliceK (P : Program) (h : Heap) (t : TypeId) (l c : Int) (K : KR β) : Option β :=
  match P.underlying t with
  | some (.slice e) => optK (P.info? e) fun ei => optK (zeroQ P e) fun q => ifK (Nat.beq q.sz ei.size) (ifK (!Nat.beq ei.size 0)
      (cond (iLe 0 (IntKind.i64.wrap l)) (cond (iLe (IntKind.i64.wrap l) (IntKind.i64.wrap c)) (cond (iLe (ei.bytes * IntKind.i64.wrap c) 281474976710656)
        (newSl h [q.seg (IntKind.i64.wrap c).toNat] ei.size (IntKind.i64.wrap l).toNat (IntKind.i64.wrap c).toNat K) none) none) none))
  | _ => none

/-- len zero elements -/
def zeroSegs (P : Program) (e : TypeId) (len : Nat) : Option (Nat × List Seg) :=
  match zeroA P e with
  | some (.one (.val (.int k v))) => some (1, [.ri len k fun _ => v])
  | some z => some (totLen z.segs, reps z.segs len)
  | none => none

def buildSliceK (P : Program) (h : Heap) (t : TypeId) (len : Nat) (ps : List (Nat × AC)) (K : KR β) : Option β :=
  match P.underlying t with
  | some (.slice e) => optK (P.info? e) fun ei => ifK (Nat.ble (len * ei.size) 16777216) (ifK (!Nat.beq ei.size 0) (
      optK (zeroSegs P e len) fun z => ifK (Nat.beq z.1 ei.size) (optK (setParts (fun i => some (i * ei.size, ei.size)) ps z.2) fun l =>
          match valsOf l with
          | some vs => newSl h [.r len ei.size (rowsOf ei.size vs)] ei.size len len K
          | none => ifK (lenOk l 0 len) (newSl h l ei.size len len K))))
  | _ => none

/-- a slice's bounds: the high one, at most c (else len); the low one, at most the high -/
def hiK (C : Cfg) (fr : Fr) (hi : Option Operand) (c len : Nat) (K : Nat → Option β) : Option β :=
  match hi with
  | none => K len
  | some o => evalC C fr o fun x => intK x fun n => cond (inBle n c) (K n.toNat) none
def loK (C : Cfg) (fr : Fr) (lo : Option Operand) (c : Nat) (K : Nat → Option β) : Option β :=
  match lo with
  | none => K 0
  | some o => evalC C fr o fun x => intK x fun n => cond (inBle n c) (K n.toNat) none

def sliceK (C : Cfg) (fr : Fr) (h : Heap) (t : TypeId) (x : AC) (lo hi : Option Operand) (K : AC → Option β) : Option β :=
  match C.P.underlying t, x with
  | some .string, .one (.val (.string s)) => hiK C fr hi s.size s.size fun b => loK C fr lo b fun a => K (.one (.val (.string (s.extract a b))))
  | some (.slice e), .one (.val (.slice none 0 0)) => optK (C.P.info? e) fun _ => hiK C fr hi 0 0 fun b => loK C fr lo b fun _ => K (.one (.val (.slice none 0 0)))
  | some (.slice e), .one (.gs i sz st len) => optK (C.P.info? e) fun ei => ifK (Nat.beq ei.size sz) (hiK C fr hi len len fun b => loK C fr lo b fun a => K (.one (.gs i sz (st + a) (b - a))))
  | some (.slice e), .one (.sl i off sz st len cap) => optK (C.P.info? e) fun ei => ifK (Nat.beq ei.size sz) (hiK C fr hi len len fun b => loK C fr lo b fun a => K (.one (.sl i off sz (st + a) (b - a) (cap - a))))
  | some (.array n e), .one (.ptr i off) => optK (C.P.info? e) fun ei => getK h i none fun bl => ifK (lenOk bl.segs off n) (hiK C fr hi n n fun b => loK C fr lo b fun a => K (.one (.sl i off ei.size a (b - a) (n - a))))
  | _, _ => none

def lenK (P : Program) (argTypes : Array TypeId) (x : AC) (K : AC → Option β) : Option β :=
  optK argTypes[0]? fun t => match P.underlying t, x with
  | some .string, .one (.val (.string s)) => K (.one (.val (.int .i64 s.size)))
  | some (.array n _), _ => K (.one (.val (.int .i64 n)))
  | some (.slice _), .one (.val (.slice none 0 0)) => K (.one (.val (.int .i64 0)))
  | some (.slice _), .one (.gs _ _ _ len) => K (.one (.val (.int .i64 len)))
  | some (.slice _), .one (.sl _ _ _ _ len _) => K (.one (.val (.int .i64 len)))
  | _, _ => none

def minMax (big : Bool) (k : IntKind) : Int → List AC → Option Int
  | a, [] => some a
  | a, .one (.val (.int k' b)) :: l => if k = k' then minMax big k (cond big (cond (iLt a b) b a) (cond (iLt b a) b a)) l else none
  | _, _ => none
def minMaxK (big : Bool) (l : List AC) (K : AC → Option β) : Option β :=
  match l with
  | .one (.val (.int k a)) :: l => optK (minMax big k a l) fun n => K (.one (.val (.int k n)))
  | _ => none

/-- conversions that make or read memory -/
def isByteSl (P : Program) (t : TypeId) : Bool :=
  match P.underlying t with
  | some (.slice e) => (match P.underlying e with
    | some (.int .u8) => (match P.info? e with
      | some i => Nat.beq i.size 1
      | none => false)
    | _ => false)
  | _ => false
def isStrTy (P : Program) (t : TypeId) : Bool :=
  match P.underlying t with
  | some .string => true
  | _ => false

def toStrK (h : Heap) (x : AC) (K : AC → Option β) : Option β :=
  if isNilSl x then K (.one (.val (.string ⟨#[]⟩))) else match x with
  | .one (.gs _ _ _ _) | .one (.sl _ _ _ _ _ _) => elemsK h 1 x fun n q => match q with
    | .ri .u8 f => K (.one (.val (.string (mkBytes n f))))
    | _ => none
  | _ => none

def strIdK (x : AC) (K : AC → Option β) : Option β :=
  match x with
  | .one (.val (.string s)) => K (.one (.val (.string s)))
  | _ => none

def convK (P : Program) (h : Heap) (src dst : TypeId) (x : AC) (K : KR β) : Option β :=
  if isStrTy P dst then (if isByteSl P src then toStrK h x fun y => K (.ac y) h [] false
      else if isStrTy P src then strIdK x fun y => K (.ac y) h [] false else none)
  else if isByteSl P dst then (match x with
    | .one (.val (.string s)) => ifK (isStrTy P src) (newGs h 1 s.size (.ri .u8 (byteAt s)) [] K)
    | _ => none)
  else convA P src dst x fun y => K y h [] false

/-- the method of a dynamic type that needs no way to its receiver -/
def methodA (P : Program) (t : TypeId) (name : String) : Option FuncId :=
  match P.info? t with
  | some i => (match i.methods.find? (·.name == name) with
    | some m => if m.path.isEmpty then (match m.func with
      | some (f, pr) => (match P.underlying t with
        | some (.pointer _) => if pr then some f else none
        | some _ => if pr then none else some f
        | none => none)
      | none => none) else none
    | none => none)
  | none => none

def isIfcTy (P : Program) (t : TypeId) : Option Bool :=
  match P.underlying t with
  | some (.interface _) => some true
  | some _ => some false
  | none => none

def mkIfc (P : Program) (t : TypeId) (x : AC) (K : AC → Option β) : Option β :=
  match isIfcTy P t with
  | some false => (match x with
    | .one y => K (.one (.ifc t y))
    | .agg l => optK (valsOf l) fun vs => K (.one (.val (.iface t (.agg vs.toArray)))))
  | _ => none

/-- an interface value's dynamic type and value -/
def ifcK (x : AC) (K : TypeId → AC → Option β) : Option β :=
  match x with
  | .one (.ifc t y) => K t (.one y)
  | .one (.val (.iface t u)) => optK (constA u) fun y => K t y
  | _ => none

def assertK (P : Program) (x : AC) (asserted : TypeId) (K : AC → Option β) : Option β :=
  match isIfcTy P asserted with
  | some false => ifcK x fun t y => ifK (Nat.beq t asserted) (K y)
  | _ => none

def builtinK (P : Program) (h : Heap) (b : Builtin) (argTypes : Array TypeId) (args : List AC) (K : KR β) : Option β :=
  match b, args with
  | .len, [x] => lenK P argTypes x fun y => K (.ac y) h [] false
  | .append, [a, x] => appendK P h argTypes a x K
  | .min, l => minMaxK false l fun y => K (.ac y) h [] false
  | .max, l => minMaxK true l fun y => K (.ac y) h [] false
  | _, _ => none

/-- one operation -/
def evOp (C : Cfg) (call : Call β) (o : Oper) (fr : Fr) (h : Heap) (K : KR β) : Option β :=
  let v (x : AV) : Option β := K x h [] false
  let w (x : AC) : Option β := K (.ac x) h [] false
  match o.op with
  | .move x | .assign x => evalK C fr x v
  | .pick c a b => evalC C fr c fun t => boolK t fun t => evalK C fr a fun x => evalK C fr b fun y => cond t (v x) (v y)
  | .alloc t => optK (zeroA C.P t) fun z => newK h z K
  | .box _ x => evalC C fr x fun z => newK h z K
  | .build t parts => partsK C fr parts.toList fun ps => buildK C.P t ps w
  | .buildSlice t len parts => partsK C fr parts.toList fun ps => buildSliceK C.P h t len ps K
  | .load t a => evalC C fr a fun a => loadK C.P h t a w
  | .store t a x => evalC C fr a fun a => evalC C fr x fun y => storeK C.P h t a y fun i h' => K undefA h' [i] true
  | .nilCheck x => evalC C fr x fun
    | .one x => optK (isNil x) fun b => if b then none else w (.one x)
    | _ => none
  | .binOp op t x y _ => evalC C fr x fun a => evalC C fr y fun b => binA C.P op t (if litOp x then true else litOp y) a b v
  | .unOp op _ x => evalC C fr x fun a => unA op a v
  | .convert src dst x => evalC C fr x fun a => convK C.P h src dst a K
  | .makeFunc (.func f) first caps => ifK first.isEmpty (evalsK C fr caps.toList fun l => optK (onesOf l) fun cs => w (.one (.fn f cs)))
  | .makeInterface t x => evalC C fr x fun a => mkIfc C.P t a w
  | .makeSlice t l c => evalC C fr l fun l => evalC C fr c fun c => intK l fun l => intK c fun c => makeSliceK C.P h t l c K
  | .slice t x lo hi none => evalC C fr x fun a => sliceK C fr h t a lo hi w
  | .fieldAddr s x f => fieldK C.P s f fun fd => evalC C fr x fun a => fieldAddrK C.P fd a w
  | .field s x f => fieldK C.P s f fun fd => evalC C fr x fun
    | .agg l => optK (loadS C.P fd.type l fd.offset) w
    | _ => none
  | .indexAddr t x ix => evalC C fr x fun a => evalC C fr ix fun n => intK n fun n => indexAddrK C.P h t a n w
  | .index t x ix => evalC C fr x fun a => evalC C fr ix fun n => intK n fun n => indexK C.P t a n w
  | .typeAssert x _ t false => evalC C fr x fun a => assertK C.P a t w
  | .extract t ix => evalK C fr t fun
    | .tup l => optK l[ix]? w
    | _ => none
  | .call c => match c.callee with
    | .value f => evalC C fr f fun
      | .one (.fn g caps) => evalsK C fr c.args.toList fun args => call g (args.map .ac ++ caps.map fun x => .ac (.one x)) h K
      | _ => none
    | .invoke r name => evalC C fr r fun a => ifcK a fun t y => optK (methodA C.P t name) fun g => evalsK C fr c.args.toList fun args => call g (.ac y :: args.map .ac) h K
    | .builtin b => evalsK C fr c.args.toList fun args => builtinK C.P h b c.argTypes args K
  | _ => none

/-- a condition that is known now is noted in its slot -/
def noteK (fr : Fr) (c : Operand) (b : Bool) (K : Fr → Option β) : Option β :=
  match c with
  | .tmp t => setK fr t (.bool b) K
  | _ => K fr

/-- the value that a guard's operation has yielded -/
def guardK (ops : List Oper) (fr : Fr) (o : Oper) (yes no : Fr → Option β) : Option β :=
  match o.guard with
  | none => yes fr
  | some (j, want) => getK ops j none fun g => match g.dst with
    | some d => getK fr d none fun
      | .ac (.one (.val (.bool b))) => cond want (cond b (setK fr d (.bool true) yes) (setK fr d (.bool false) no)) (cond b (setK fr d (.bool true) no) (setK fr d (.bool false) yes))
      | .tup [] => no fr
      | _ => none
    | none => none

def putK (fr : Fr) (dst : Option Tmp) (x : AV) (K : Fr → Option β) : Option β :=
  match dst with
  | some d => setK fr d x K
  | none => K fr

def nilB : List Nat → Bool
  | [] => true
  | _ => false

/-- what the draw's check needs of an operation that was carried out: loud? what does it read? which blocks has it written? how many blocks were there? -/
structure FI where
  l : Bool
  k : Option (Option Nat)
  ws : List Nat
  n : Nat

/-- what a quiet operation reads of the heap: nothing; one block; not known -/
def rkA : AC → Option (Option Nat)
  | .one (.ptr i _) => some (some i)
  | .one (.dptr i _ _ _ _) => some (some i)
  | _ => none
def rkS : AC → Option (Option Nat)
  | .one (.ptr i _) => some (some i)
  | .one (.dptr _ _ _ _ _) | .one (.gs _ _ _ _) | .one (.sl _ _ _ _ _ _) | .one (.val _) => some none
  | _ => none
def rk (C : Cfg) (o : Oper) (fr : Fr) : Option (Option Nat) :=
  match o.op with
  | .move _ | .assign _ | .pick _ _ _ | .nilCheck _ | .binOp _ _ _ _ _ | .unOp _ _ _ | .makeFunc (.func _) _ _ | .fieldAddr _ _ _ | .field _ _ _ | .index _ _ _ | .extract _ _ | .build _ _ | .makeInterface _ _ | .typeAssert _ _ _ false => some none
  | .convert src dst _ => if isByteSl C.P src then none else if isByteSl C.P dst then none else some none
  | .load _ a => evalC C fr a rkA
  | .indexAddr _ a _ => evalC C fr a rkS
  | .slice _ a _ _ none => evalC C fr a rkS
  | .call c => match c.callee with
    | .builtin .len | .builtin .min | .builtin .max => some none
    | _ => none
  | _ => none

def evOps (C : Cfg) (call : Call β) (ops : List Oper) : List Oper → St → List FI → (St → List FI → Option β) → Option β
  | [], st, fl, K => K st fl
  | o :: r, st, fl, K => guardK ops st.fr o
      (fun gr => evOp C call o gr st.h fun x h w l => putK gr o.dst x fun fr => evOps C call ops r ⟨fr, h, unionN w st.ws⟩ (⟨l, rk C o gr, w, st.h.length⟩ :: fl) K)
      (fun gr => putK gr o.dst undefA fun fr => evOps C call ops r { st with fr } (⟨false, some none, [], 0⟩ :: fl) K)

inductive Ex where
  | normal | exit (id : Nat) | goto (l : Nat) | ret

/-! ### the draw's check -/
def looks (ops : Array Oper) (o : Oper) : List Tmp :=
  (o.op.operands.toList.filterMap fun | .tmp t => some t | _ => none) ++
  (match o.guard with
   | some (g, _) => ((ops[g]?).bind (·.dst)).toList
   | none => [])

/-- the numbers of those that must come ahead -/
def predsOf (done : List (List Nat)) (o : Oper) : List Nat :=
  (o.after.toList.filter fun e => Region.binds .any e).flatMap fun e => e.on :: (done.getD e.on [])

def allPreds : List Oper → List (List Nat) → List (List Nat)
  | [], acc => acc
  | o :: r, acc => allPreds r (acc ++ [predsOf acc o])

def clash (ops : Array Oper) (i j : Oper) : Bool :=
  match i.dst with
  | some d => if memN d (looks ops j) then true else (match j.dst with | some e => if Nat.beq d e then true else memN e (looks ops i) | none => false)
  | none => match j.dst with
    | some e => memN e (looks ops i)
    | none => false

/-- may a reader stand beside one that writes the blocks ws, there being n blocks? -/
def swB (k : Option (Option Nat)) (ws : List Nat) (n : Nat) : Bool :=
  match k with
  | some none => true
  | some (some b) => if memN b ws then false else Nat.blt b n
  | none => false

def besideB (fi fj : FI) : Bool :=
  match fi.l, fj.l with
  | false, false => true
  | true, true => false
  | false, true => swB fi.k fj.ws fj.n
  | true, false => swB fj.k fi.ws fi.n

/-- operation j against all ahead of it -/
def pairOk (ops : Array Oper) (j : Oper) (fj : FI) (pj : List Nat) : Nat → List (Oper × FI) → Bool
  | _, [] => true
  | i, (oi, fi) :: r => if memN i pj then pairOk ops j fj pj (i + 1) r else
      if clash ops oi j then false else if besideB fi fj then pairOk ops j fj pj (i + 1) r else false

def drawOkGo (ops : Array Oper) : List (Oper × FI) → List (List Nat) → List (Oper × FI) → Bool
  | _, _, [] => true
  | ahead, p :: ps, (o, l) :: r => if pairOk ops o l p 0 ahead then drawOkGo ops (ahead ++ [(o, l)]) ps r else false
  | _, [], _ => false

def edgesOk : Nat → List Oper → Bool
  | _, [] => true
  | j, o :: r => if allB (fun e => if Region.binds .any e then Nat.blt e.on j else true) o.after.toList then edgesOk (j + 1) r else false

def drawOk (ops : Array Oper) (fl : List FI) : Bool :=
  if edgesOk 0 ops.toList then drawOkGo ops [] (allPreds ops.toList []) (ops.toList.zip fl.reverse) else false

def loopK (body : St → (Ex → St → Option β) → Option β) : Nat → St → (Ex → St → Option β) → Option β
  | 0, _, _ => none
  | k + 1, st, K => body st fun e st' => match e with
    | .normal => loopK body k st' K
    | e => K e st'

def scopeK (run : Code → St → (Ex → St → Option β) → Option β) (b : Code) : Nat → Code → St → (Ex → St → Option β) → Option β
  | 0, _, _, _ => none
  | k + 1, c, st, K => run c st fun e st' => match e with
    | .goto l => match findLabel b l with
      | some rest => scopeK run b k rest st' K
      | none => K (.goto l) st'
    | e => K e st'

def evC (C : Cfg) (call : Call β) (lf : Nat) : Nat → Code → St → (Ex → St → Option β) → Option β
  | 0, _, _, _ => none
  | n + 1, c, st, K => match c with
    | .skip | .label _ => K .normal st
    | .region _ ops draw => evOps C call ops.toList ops.toList st [] fun st fl => if draw then (if drawOk ops fl then K .normal st else none) else K .normal st
    | .seq a b => evC C call lf n a st fun e st => match e with
      | .normal => evC C call lf n b st K
      | e => K e st
    | .cond c a b => evalC C st.fr c fun t => boolK t fun t => cond t (noteK st.fr c true fun fr => evC C call lf n a { st with fr } K) (noteK st.fr c false fun fr => evC C call lf n b { st with fr } K)
    | .block id b => evC C call lf n b st fun e st => match e with
      | .exit id' => if Nat.beq id' id then K .normal st else K (.exit id') st
      | e => K e st
    | .loop b => loopK (evC C call lf n b) lf st K
    | .exit id => K (.exit id) st
    | .goto l => K (.goto l) st
    | .scope b => scopeK (evC C call lf n) b lf b st K
    | .ret => K .ret st
    | _ => none

/-- a loop's contract: from a state (in a function that was entered with so many blocks) to where it comes -/
abbrev LS := Nat → St → Option (Ex × St)
abbrev LT := List (Nat × LS)

/-- a code's loops' bodies, in the order of the text -/
def loopsOf : Code → List Code
  | .seq a b => loopsOf a ++ loopsOf b
  | .cond _ a b => loopsOf a ++ loopsOf b
  | .block _ b => loopsOf b
  | .loop b => b :: loopsOf b
  | _ => []

def nLoops (c : Code) : Nat := (loopsOf c).length

/-- evC with contracts of loops: i is the number of the code's first loop -/
def evCM (C : Cfg) (call : Call β) (T : LT) (base lf : Nat) : Nat → Nat → Code → St → (Ex → St → Option β) → Option β
  | 0, _, _, _, _ => none
  | n + 1, i, c, st, K => match c with
    | .skip | .label _ => K .normal st
    | .region _ ops draw => evOps C call ops.toList ops.toList st [] fun st fl => if draw then (if drawOk ops fl then K .normal st else none) else K .normal st
    | .seq a b => evCM C call T base lf n i a st fun e st => match e with
      | .normal => evCM C call T base lf n (i + nLoops a) b st K
      | e => K e st
    | .cond c a b => evalC C st.fr c fun t => boolK t fun t => cond t (noteK st.fr c true fun fr => evCM C call T base lf n i a { st with fr } K) (noteK st.fr c false fun fr => evCM C call T base lf n (i + nLoops a) b { st with fr } K)
    | .block id b => evCM C call T base lf n i b st fun e st => match e with
      | .exit id' => if Nat.beq id' id then K .normal st else K (.exit id') st
      | e => K e st
    | .loop b => match lookup T i with
      | some S => (S base st).bind fun r => K r.1 r.2
      | none => loopK (evCM C call T base lf n (i + 1) b) lf st K
    | .exit id => K (.exit id) st
    | .goto l => K (.goto l) st
    | .scope b => scopeK (evC C call lf n) b lf b st K
    | .ret => K .ret st
    | _ => none

/-- of a frame, what is kept -/
def keepF (keep : List Nat) : Nat → Fr → Fr
  | _, [] => []
  | i, x :: l => (if memN i keep then x else .top) :: keepF keep (i + 1) l

/-! ### what is no longer met is forgotten, what is met gets the numbers in the order in which it is met -/
def lowBlks (ρ : Nat → Option Nat) (ws : List Nat) : Nat → Nat → List Blk → List Blk
  | 0, _, _ => []
  | _ + 1, _, [] => []
  | n + 1, i, b :: l => (if memN i ws then renBlk ρ b else b) :: lowBlks ρ ws n (i + 1) l

def highBlks (ρ : Nat → Option Nat) (h : Heap) : List Nat → List Blk
  | [] => []
  | i :: l => (match h[i]? with | some b => renBlk ρ b | none => ⟨true, 0, []⟩) :: highBlks ρ h l

def wsRefs (h : Heap) : List Nat → List Nat
  | [] => []
  | i :: l => (match h[i]? with | some b => refsSegs b.segs | none => []) ++ wsRefs h l

def gcIds (base : Nat) (roots ws : List Nat) (h : Heap) : List Nat := visit 10000 h (roots ++ wsRefs h ws) (rangeN base)
def gcH (base : Nat) (ws ids : List Nat) (h : Heap) : Heap := lowBlks (posN ids) ws base 0 h ++ highBlks (posN ids) h (ids.drop base)

/-- a state with what is kept alone (the function was entered with so many blocks) -/
def gcSt (base : Nat) (keep : List Nat) (s : St) : St :=
  let fr := keepF keep 0 s.fr
  let ws := sortN base s.ws
  let ids := gcIds base (refsAVs fr) ws s.h
  ⟨renAVs (posN ids) fr, gcH base ws ids s.h, ws⟩

def resK (P : Program) (st : St) : List ResultVar → (List AC → Option β) → Option β
  | [], K => K []
  | .tmp t :: r, K => getK st.fr t none fun
    | .ac x => resK P st r fun l => K (x :: l)
    | _ => none
  | .cell a t :: r, K => getK st.fr a none fun
    | .ac a => loadK P st.h t a fun x => resK P st r fun l => K (x :: l)
    | _ => none

def mkRes (l : List AC) : AV :=
  match l with
  | [x] => .ac x
  | l => .tup l

/-- a function has come to its end: what is its own and is not handed out is forgotten -/
def retK (h0 : Heap) (st : St) (v : AV) (K : KR β) : Option β :=
  let base := h0.length
  let ws := sortN base st.ws
  match ws, belowB base (refsAV v) with
  | [], true => K v h0 [] false
  | ws, _ => let ids := gcIds base (refsAV v) ws st.h
    K (renAV (posN ids) v) (gcH base ws ids st.h) ws true

def evFn (C : Cfg) (call : Call β) (Λ : List (Nat × LT)) (lf n : Nat) (f : FuncId) (args : List AV) (h : Heap) (K : KR β) : Option β :=
  optK C.P.funcs[f]? fun fn => optK fn.body fun body =>
    evCM C call (lookupL Λ f) h.length lf n 0 body ⟨args ++ List.replicate (fn.ntmps - args.length) undefA, h, []⟩ fun e st => match e with
      | .normal | .ret => resK C.P st fn.results.toList fun l => retK h st (mkRes l) K
      | _ => none

structure SR where
  v : AV
  h : Heap
  ws : List Nat
  loud : Bool

abbrev Summ := List AV → Heap → Option SR

/-- what is known: functions' summaries, loops' contracts -/
structure Known where
  fs : List (Nat × Summ)
  ls : List (Nat × LT)

/-! ### a summary where there are more blocks -/
def backF (ids : List Nat) (n k : Nat) : Option Nat := if Nat.blt k ids.length then ids[k]? else some (n + (k - ids.length))

/-- the blocks k of the answer, put at their places -/
def putBlks (ρ : Nat → Option Nat) (ids : List Nat) (h' : Heap) : List Nat → Heap → Heap
  | [], h => h
  | k :: l, h => match ids[k]?, h'[k]? with
    | some i, some b => putBlks ρ ids h' l (h.set i (renBlk ρ b))
    | _, _ => putBlks ρ ids h' l h

def renBlks (ρ : Nat → Option Nat) : List Blk → List Blk
  | [] => []
  | b :: l => renBlk ρ b :: renBlks ρ l

def atIds (ids : List Nat) : List Nat → List Nat
  | [] => []
  | k :: l => match ids[k]? with
    | some i => i :: atIds ids l
    | none => atIds ids l

def liftIds (G : Nat) (args : List AV) (h : Heap) : List Nat := visit 10000 h (refsAVs args) (rangeN G)

/-- do the blocks that may be written refer to none but those of ids? -/
def closedB (h : Heap) (ids : List Nat) : List Nat → Bool
  | [] => true
  | i :: l => match h[i]? with
    | some b => if b.mu then (if allB (fun j => memN j ids) (refsSegs b.segs) then closedB h ids l else false) else closedB h ids l
    | none => closedB h ids l

def liftS (G : Nat) (S : Summ) : Summ := fun args h =>
  let ids := liftIds G args h
  if Nat.ble G h.length then (if closedB h ids ids then (match S (renAVs (posN ids) args) (highBlks (posN ids) h ids) with
  | some r => if r.loud then (if allB (fun b => b.mu) (r.h.drop ids.length) then some ⟨renAV (backF ids h.length) r.v, putBlks (backF ids h.length) ids r.h r.ws h ++ renBlks (backF ids h.length) (r.h.drop ids.length), atIds ids r.ws, true⟩ else none)
      else some ⟨renAV (backF ids h.length) r.v, h, [], false⟩
  | none => none) else none) else none

def evCall (C : Cfg) (Φ : Known) (lf : Nat) : Nat → Call β
  | 0, _, _, _, _ => none
  | d + 1, f, args, h, K => match lookup Φ.fs f with
    | some S => (liftS C.glob.length S args h).bind fun r => K r.v r.h r.ws r.loud
    | none => evFn C (evCall C Φ lf d) Φ.ls lf 1000 f args h K
end

def ev (C : Cfg) (Φ : Known) (lf : Nat) (f : FuncId) : Summ :=
  fun args h => evFn C (evCall C Φ lf 20) Φ.ls lf 1000 f args h fun v h w l => some ⟨v, h, w, l⟩

/-- the body of function f's loop k -/
def loopAt (P : Program) (f k : Nat) : Option Code :=
  match P.funcs[f]? with
  | some fn => (match fn.body with
    | some c => (loopsOf c)[k]?
    | none => none)
  | none => none

/-- a round of function f's loop k -/
def evL (C : Cfg) (Φ : Known) (lf : Nat) (f k : Nat) (base : Nat) (keep : List Nat) (s : St) : Option (Ex × St) :=
  optK (loopAt C.P f k) fun L => evCM C (evCall C Φ lf 20) (lookupL Φ.ls f) base lf 1000 (k + 1) L s fun e s' => some (e, gcSt base keep s')

end Ev
