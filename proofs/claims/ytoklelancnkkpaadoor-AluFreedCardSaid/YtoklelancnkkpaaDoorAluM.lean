/-
  What the package alu computes, in plain words, and that a flag that is not needed bears on nothing but itself. No conditions.
-/
import Derived.Test.YtoklelancnkkpaaDoorEvF
import Derived.KernelRfl
set_option autoImplicit false
set_option linter.unusedVariables false
set_option linter.unusedSimpArgs false
namespace Ev
open Go

/-! ## alu: what its functions compute -/
def fNz (r p : Int) : Int := cond (r == 0) (bOr .u8 (bOr .u8 (bAndNot .u8 p 130) 2) (bAnd .u8 r 128)) (bOr .u8 (bAndNot .u8 p 130) (bAnd .u8 r 128))
def fPut (p flag : Int) (s : Bool) : Int := cond s (bOr .u8 p flag) (bAndNot .u8 p flag)

def fSum (a m p : Int) : Int := IntKind.i64.wrap (IntKind.i64.wrap (IntKind.i64.wrap a + IntKind.i64.wrap m) + IntKind.i64.wrap (bAnd .u8 p 1))
/-- Adc: binary; decimal, with the low digits' sum l and the sum s put right -/
def adcB (a m p : Int) : Int × Int :=
  (IntKind.u8.wrap (fSum a m p), fNz (IntKind.u8.wrap (fSum a m p)) (fPut (fPut p 1 (iLt 255 (fSum a m p))) 64 (bAnd .u8 (bAnd .u8 (bXor .u8 a (IntKind.u8.wrap (fSum a m p))) (bXor .u8 m (IntKind.u8.wrap (fSum a m p)))) 128 != 0)))
def adcL (a m p : Int) : Int := IntKind.i64.wrap (IntKind.i64.wrap (IntKind.i64.wrap (bAnd .u8 a 15) + IntKind.i64.wrap (bAnd .u8 m 15)) + IntKind.i64.wrap (bAnd .u8 p 1))
def adcH (l : Int) : Int := IntKind.i64.wrap (bAnd .i64 (IntKind.i64.wrap (l + 6)) 15 + 16)
def adcS (a m l : Int) : Int := IntKind.i64.wrap (IntKind.i64.wrap (IntKind.i64.wrap (bAnd .u8 a 240) + IntKind.i64.wrap (bAnd .u8 m 240)) + l)
def adcD (a m p s t : Int) : Int × Int :=
  (IntKind.u8.wrap t, fPut (fPut (fPut (fNz (IntKind.u8.wrap s) p) 64 (bAnd .u8 (bAnd .u8 (bXor .u8 a (IntKind.u8.wrap s)) (bXor .u8 m (IntKind.u8.wrap s))) 128 != 0)) 2 (IntKind.u8.wrap (fSum a m p) == 0)) 1 (iLt 255 t))
def adcT (s : Int) : Int := IntKind.i64.wrap (s + 96)
def fAdc (a m p : Int) : Int × Int :=
  cond (bAnd .u8 p 8 == 0) (adcB a m p)
    (cond (iLt 9 (adcL a m p))
      (cond (iLe 160 (adcS a m (adcH (adcL a m p)))) (adcD a m p (adcS a m (adcH (adcL a m p))) (adcT (adcS a m (adcH (adcL a m p))))) (adcD a m p (adcS a m (adcH (adcL a m p))) (adcS a m (adcH (adcL a m p)))))
      (cond (iLe 160 (adcS a m (adcL a m p))) (adcD a m p (adcS a m (adcL a m p)) (adcT (adcS a m (adcL a m p)))) (adcD a m p (adcS a m (adcL a m p)) (adcS a m (adcL a m p)))))
def sbcW (p : Int) : Int := IntKind.i64.wrap (1 - IntKind.i64.wrap (bAnd .u8 p 1))
def fDif (a m p : Int) : Int := IntKind.i64.wrap (IntKind.i64.wrap (IntKind.i64.wrap a - IntKind.i64.wrap m) - sbcW p)
def sbcP (a m p : Int) : Int := fNz (IntKind.u8.wrap (fDif a m p)) (fPut (fPut p 1 (iLe 0 (fDif a m p))) 64 (bAnd .u8 (bAnd .u8 (bXor .u8 a m) (bXor .u8 a (IntKind.u8.wrap (fDif a m p)))) 128 != 0))
def sbcL (a m p : Int) : Int := IntKind.i64.wrap (IntKind.i64.wrap (IntKind.i64.wrap (bAnd .u8 a 15) - IntKind.i64.wrap (bAnd .u8 m 15)) - sbcW p)
def sbcH (l : Int) : Int := IntKind.i64.wrap (bAnd .i64 (IntKind.i64.wrap (l - 6)) 15 - 16)
def sbcS (a m l : Int) : Int := IntKind.i64.wrap (IntKind.i64.wrap (IntKind.i64.wrap (bAnd .u8 a 240) - IntKind.i64.wrap (bAnd .u8 m 240)) + l)
def sbcT (s : Int) : Int := IntKind.i64.wrap (s - 96)
def sbcR (a m p : Int) : Int :=
  cond (bAnd .u8 p 8 == 0) (IntKind.u8.wrap (fDif a m p))
    (cond (iLt (sbcL a m p) 0)
      (cond (iLt (sbcS a m (sbcH (sbcL a m p))) 0) (IntKind.u8.wrap (sbcT (sbcS a m (sbcH (sbcL a m p))))) (IntKind.u8.wrap (sbcS a m (sbcH (sbcL a m p)))))
      (cond (iLt (sbcS a m (sbcL a m p)) 0) (IntKind.u8.wrap (sbcT (sbcS a m (sbcL a m p)))) (IntKind.u8.wrap (sbcS a m (sbcL a m p)))))
def fSbc (a m p : Int) : Int × Int := (sbcR a m p, sbcP a m p)
def arrR (a m p : Int) : Int := bOr .u8 (iShr .u8 (bAnd .u8 a m) 1) (iShl .u8 (bAnd .u8 p 1) 7)
def arrB (a m p : Int) : Int := fPut (fPut (fNz (arrR a m p) p) 1 (bAnd .u8 (arrR a m p) 64 != 0)) 64 (bAnd .u8 (bXor .u8 (arrR a m p) (iShl .u8 (arrR a m p) 1)) 64 != 0)
def arrQ (a m p : Int) : Int := fPut (fNz (arrR a m p) p) 64 (bAnd .u8 (bXor .u8 (bAnd .u8 a m) (arrR a m p)) 64 != 0)
def arrL (a m : Int) : Bool := iLt 5 (IntKind.i64.wrap (IntKind.i64.wrap (bAnd .u8 (bAnd .u8 a m) 15) + IntKind.i64.wrap (bAnd .u8 (bAnd .u8 a m) 1)))
def arrH (a m : Int) : Bool := iLt 80 (IntKind.i64.wrap (IntKind.i64.wrap (bAnd .u8 (bAnd .u8 a m) 240) + IntKind.i64.wrap (bAnd .u8 (bAnd .u8 a m) 16)))
def arrO (r : Int) : Int := bOr .u8 (bAnd .u8 r 240) (bAnd .u8 (IntKind.u8.wrap (r + 6)) 15)
def fArr (a m p : Int) : Int × Int :=
  cond (bAnd .u8 p 8 == 0) (arrR a m p, arrB a m p)
    (cond (arrL a m)
      (cond (arrH a m) (IntKind.u8.wrap (arrO (arrR a m p) + 96), fPut (arrQ a m p) 1 (arrH a m)) (arrO (arrR a m p), fPut (arrQ a m p) 1 (arrH a m)))
      (cond (arrH a m) (IntKind.u8.wrap (arrR a m p + 96), fPut (arrQ a m p) 1 (arrH a m)) (arrR a m p, fPut (arrQ a m p) 1 (arrH a m))))
/-- shifts: ASL 2, LSR 32, ROL 39, ROR 40 -/
def fShR (op m p : Int) : Int :=
  if op = 2 then iShl .u8 m 1 else if op = 32 then iShr .u8 m 1 else if op = 39 then bOr .u8 (iShl .u8 m 1) (bAnd .u8 p 1) else bOr .u8 (iShr .u8 m 1) (iShl .u8 (bAnd .u8 p 1) 7)
def fShP (op m p : Int) : Int := fNz (fShR op m p) (fPut p 1 (if op = 2 then bAnd .u8 m 128 != 0 else if op = 39 then bAnd .u8 m 128 != 0 else bAnd .u8 m 1 != 0))

def fCmp (r m p : Int) : Int := fNz (IntKind.u8.wrap (r - m)) (fPut p 1 (iLe m r))
/-- the registers, the flags, the operand -/
structure Rg where
  a : Int
  x : Int
  y : Int
  s : Int
  p : Int
  m : Int
abbrev aluL (r : Rg) : List Seg := [c8 r.a, c8 r.x, c8 r.y, c8 r.s, c8 r.p, c8 r.m]
abbrev aluA (r : Rg) : AV := .ac (.agg (aluL r))

/-- Do -/
def dO (op : Int) : Rg → Rg
  | ⟨a, x, y, s, p, m⟩ =>
    cond (op == 29) ⟨(m), x, y, s, (fNz m p), m⟩ (
    cond (op == 30) ⟨a, (m), y, s, (fNz m p), m⟩ (
    cond (op == 31) ⟨a, x, (m), s, (fNz m p), m⟩ (
    cond (op == 62) ⟨(m), (m), y, s, (fNz m (fNz m p)), m⟩ (
    cond (op == 61) ⟨(bAnd .u8 s m), (bAnd .u8 s m), y, (bAnd .u8 s m), (fNz (bAnd .u8 s m) p), m⟩ (
    cond (op == 47) ⟨a, x, y, s, p, (a)⟩ (
    cond (op == 48) ⟨a, x, y, s, p, (x)⟩ (
    cond (op == 49) ⟨a, x, y, s, p, (y)⟩ (
    cond (op == 65) ⟨a, x, y, s, p, (bAnd .u8 a x)⟩ (
    cond (op == 50) ⟨a, (a), y, s, (fNz a p), m⟩ (
    cond (op == 51) ⟨a, x, (a), s, (fNz a p), m⟩ (
    cond (op == 53) ⟨(x), x, y, s, (fNz x p), m⟩ (
    cond (op == 55) ⟨(y), x, y, s, (fNz y p), m⟩ (
    cond (op == 52) ⟨a, (s), y, s, (fNz s p), m⟩ (
    cond (op == 54) ⟨a, x, y, (x), p, m⟩ (
    cond (op == 1) ⟨(bAnd .u8 a m), x, y, s, (fNz (bAnd .u8 a m) p), m⟩ (
    cond (op == 34) ⟨(bOr .u8 a m), x, y, s, (fNz (bOr .u8 a m) p), m⟩ (
    cond (op == 23) ⟨(bXor .u8 a m), x, y, s, (fNz (bXor .u8 a m) p), m⟩ (
    cond (op == 6) ⟨a, x, y, s, (fPut (fPut (fPut p 2 (bAnd .u8 a m == 0)) 128 (bAnd .u8 m 128 != 0)) 64 (bAnd .u8 m 64 != 0)), m⟩ (
    cond (op == 0) ⟨((fAdc a m p).1), x, y, s, ((fAdc a m p).2), m⟩ (
    cond (op == 43) ⟨((fSbc a m p).1), x, y, s, ((fSbc a m p).2), m⟩ (
    cond (op == 58) ⟨((fArr a m p).1), x, y, s, ((fArr a m p).2), m⟩ (
    cond (op == 17) ⟨a, x, y, s, (fCmp a m p), m⟩ (
    cond (op == 18) ⟨a, x, y, s, (fCmp x m p), m⟩ (
    cond (op == 19) ⟨a, x, y, s, (fCmp y m p), m⟩ (
    cond (op == 24) ⟨a, x, y, s, (fNz (IntKind.u8.wrap (m + 1)) p), (IntKind.u8.wrap (m + 1))⟩ (
    cond (op == 20) ⟨a, x, y, s, (fNz (IntKind.u8.wrap (m + 255)) p), (IntKind.u8.wrap (m + 255))⟩ (
    cond (op == 25) ⟨a, (IntKind.u8.wrap (x + 1)), y, s, (fNz (IntKind.u8.wrap (x + 1)) p), m⟩ (
    cond (op == 26) ⟨a, x, (IntKind.u8.wrap (y + 1)), s, (fNz (IntKind.u8.wrap (y + 1)) p), m⟩ (
    cond (op == 21) ⟨a, (IntKind.u8.wrap (x + 255)), y, s, (fNz (IntKind.u8.wrap (x + 255)) p), m⟩ (
    cond (op == 22) ⟨a, x, (IntKind.u8.wrap (y + 255)), s, (fNz (IntKind.u8.wrap (y + 255)) p), m⟩ (
    cond (op == 2) ⟨a, x, y, s, (fShP 2 m p), (fShR 2 m p)⟩ (
    cond (op == 32) ⟨a, x, y, s, (fShP 32 m p), (fShR 32 m p)⟩ (
    cond (op == 39) ⟨a, x, y, s, (fShP 39 m p), (fShR 39 m p)⟩ (
    cond (op == 40) ⟨a, x, y, s, (fShP 40 m p), (fShR 40 m p)⟩ (
    cond (op == 67) ⟨(bOr .u8 a (fShR 2 m p)), x, y, s, (fNz (bOr .u8 a (fShR 2 m p)) (fShP 2 m p)), (fShR 2 m p)⟩ (
    cond (op == 63) ⟨(bAnd .u8 a (fShR 39 m p)), x, y, s, (fNz (bAnd .u8 a (fShR 39 m p)) (fShP 39 m p)), (fShR 39 m p)⟩ (
    cond (op == 68) ⟨(bXor .u8 a (fShR 32 m p)), x, y, s, (fNz (bXor .u8 a (fShR 32 m p)) (fShP 32 m p)), (fShR 32 m p)⟩ (
    cond (op == 64) ⟨((fAdc a (fShR 40 m p) (fShP 40 m p)).1), x, y, s, ((fAdc a (fShR 40 m p) (fShP 40 m p)).2), (fShR 40 m p)⟩ (
    cond (op == 59) ⟨a, x, y, s, (fCmp a (IntKind.u8.wrap (m - 1)) p), (IntKind.u8.wrap (m - 1))⟩ (
    cond (op == 60) ⟨((fSbc a (IntKind.u8.wrap (m + 1)) p).1), x, y, s, ((fSbc a (IntKind.u8.wrap (m + 1)) p).2), (IntKind.u8.wrap (m + 1))⟩ (
    cond (op == 57) ⟨(bAnd .u8 a m), x, y, s, (fPut (fNz (bAnd .u8 a m) p) 1 (bAnd .u8 (bAnd .u8 a m) 128 != 0)), m⟩ (
    cond (op == 56) ⟨(fShR 32 (bAnd .u8 a m) (fNz (bAnd .u8 a m) p)), x, y, s, (fShP 32 (bAnd .u8 a m) (fNz (bAnd .u8 a m) p)), m⟩ (
    cond (op == 66) ⟨a, (IntKind.u8.wrap (bAnd .u8 a x - m)), y, s, (fCmp (bAnd .u8 a x) m p), m⟩ (
    cond (op == 13) ⟨a, x, y, s, (fPut p 1 false), m⟩ (
    cond (op == 14) ⟨a, x, y, s, (fPut p 8 false), m⟩ (
    cond (op == 15) ⟨a, x, y, s, (fPut p 4 false), m⟩ (
    cond (op == 16) ⟨a, x, y, s, (fPut p 64 false), m⟩ (
    cond (op == 44) ⟨a, x, y, s, (fPut p 1 true), m⟩ (
    cond (op == 45) ⟨a, x, y, s, (fPut p 8 true), m⟩ (
    cond (op == 46) ⟨a, x, y, s, (fPut p 4 true), m⟩ (
    cond (op == 35) ⟨a, x, y, s, p, (a)⟩ (
    cond (op == 36) ⟨a, x, y, s, p, (bOr .u8 (bOr .u8 p 16) 32)⟩ (
    cond (op == 37) ⟨(m), x, y, s, (fNz m p), m⟩ (
    cond (op == 38) ⟨a, x, y, s, (bOr .u8 (bAndNot .u8 m 16) 32), m⟩ (
    cond (op == 41) ⟨a, x, y, s, (bOr .u8 (bAndNot .u8 m 16) 32), m⟩ (
    cond (op == 10) ⟨a, x, y, s, (bOr .u8 p 4), (bOr .u8 (bOr .u8 p 16) 32)⟩ (
    ⟨a, x, y, s, p, m⟩)))))))))))))))))))))))))))))))))))))))))))))))))))))))))

/-- Acc -/
def aC (op : Int) : Rg → Rg
  | ⟨a, x, y, s, p, m⟩ => cond (op == 2) ⟨fShR 2 a p, x, y, s, fShP 2 a p, m⟩ (cond (op == 39) ⟨fShR 39 a p, x, y, s, fShP 39 a p, m⟩ (cond (op == 32) ⟨fShR 32 a p, x, y, s, fShP 32 a p, m⟩ (cond (op == 40) ⟨fShR 40 a p, x, y, s, fShP 40 a p, m⟩ ⟨a, x, y, s, p, m⟩)))

/-- Taken -/
def tk (op p : Int) : Bool :=
  cond (op == 3) ((bAnd .u8 p 1 != 0) == false) (
  cond (op == 4) ((bAnd .u8 p 1 != 0) == true) (
  cond (op == 8) ((bAnd .u8 p 2 != 0) == false) (
  cond (op == 5) ((bAnd .u8 p 2 != 0) == true) (
  cond (op == 9) ((bAnd .u8 p 128 != 0) == false) (
  cond (op == 7) ((bAnd .u8 p 128 != 0) == true) (
  cond (op == 11) ((bAnd .u8 p 64 != 0) == false) (
  cond (op == 12) ((bAnd .u8 p 64 != 0) == true) (
  false))))))))

/-! ### what they say of abstract arguments -/
def tup2 (r q : Int) : AV := .tup [.one (.val (.int .u8 r)), .one (.val (.int .u8 q))]
def sNz : List AV → Option AV
  | [.ac (.one (.val (.int .u8 r))), .ac (.one (.val (.int .u8 p)))] => some (u8 (fNz r p))
  | _ => none
def sPut : List AV → Option AV
  | [.ac (.one (.val (.int .u8 p))), .ac (.one (.val (.int .u8 f))), .ac (.one (.val (.bool s)))] => some (u8 (fPut p f s))
  | _ => none
def sAdc : List AV → Option AV
  | [.ac (.one (.val (.int .u8 a))), .ac (.one (.val (.int .u8 m))), .ac (.one (.val (.int .u8 p)))] => some (tup2 (fAdc a m p).1 (fAdc a m p).2)
  | _ => none
def sSbc : List AV → Option AV
  | [.ac (.one (.val (.int .u8 a))), .ac (.one (.val (.int .u8 m))), .ac (.one (.val (.int .u8 p)))] => some (tup2 (fSbc a m p).1 (fSbc a m p).2)
  | _ => none
def sArr : List AV → Option AV
  | [.ac (.one (.val (.int .u8 a))), .ac (.one (.val (.int .u8 m))), .ac (.one (.val (.int .u8 p)))] => some (tup2 (fArr a m p).1 (fArr a m p).2)
  | _ => none
def sCmp : List AV → Option AV
  | [.ac (.one (.val (.int .u8 r))), .ac (.one (.val (.int .u8 m))), .ac (.one (.val (.int .u8 p)))] => some (u8 (fCmp r m p))
  | _ => none
def sShift : List AV → Option AV
  | [.ac (.one (.val (.int .i64 op))), .ac (.one (.val (.int .u8 m))), .ac (.one (.val (.int .u8 p)))] =>
    if op = 2 then some (tup2 (fShR 2 m p) (fShP 2 m p)) else if op = 32 then some (tup2 (fShR 32 m p) (fShP 32 m p)) else if op = 39 then some (tup2 (fShR 39 m p) (fShP 39 m p)) else if op = 40 then some (tup2 (fShR 40 m p) (fShP 40 m p)) else none
  | _ => none
def rgOf : AV → Option Rg
  | .ac (.agg [.c (.val (.int .u8 a)), .c (.val (.int .u8 x)), .c (.val (.int .u8 y)), .c (.val (.int .u8 s)), .c (.val (.int .u8 p)), .c (.val (.int .u8 m))]) => some ⟨a, x, y, s, p, m⟩
  | _ => none
def sDo : List AV → Option AV
  | [.ac (.one (.val (.int .i64 op))), .ac (.agg [.c (.val (.int .u8 a)), .c (.val (.int .u8 x)), .c (.val (.int .u8 y)), .c (.val (.int .u8 s)), .c (.val (.int .u8 p)), .c (.val (.int .u8 m))])] => some (aluA (dO op ⟨a, x, y, s, p, m⟩))
  | _ => none
def sAcc : List AV → Option AV
  | [.ac (.one (.val (.int .i64 op))), .ac (.agg [.c (.val (.int .u8 a)), .c (.val (.int .u8 x)), .c (.val (.int .u8 y)), .c (.val (.int .u8 s)), .c (.val (.int .u8 p)), .c (.val (.int .u8 m))])] => some (aluA (aC op ⟨a, x, y, s, p, m⟩))
  | _ => none
def sTaken : List AV → Option AV
  | [.ac (.one (.val (.int .i64 op))), .ac (.one (.val (.int .u8 p)))] => some (boo (tk op p))
  | _ => none
/-- of each operation the flags that it needs, and those that it sets -/
def ndL : List Int := [9, 0, 0, 1, 1, 2, 0, 128, 2, 128, 207, 64, 64, 0, 0, 0, 0, 0, 0, 0, 0, 0, 0, 0, 0, 0, 0, 0, 0, 0, 0, 0, 0, 0, 0, 0, 207, 0, 0, 1, 1, 0, 0, 9, 0, 0, 0, 0, 0, 0, 0, 0, 0, 0, 0, 0, 0, 0, 9, 0, 9, 0, 0, 1, 9, 0, 0, 0, 0, 0]
def stL : List Int := [195, 130, 131, 0, 0, 0, 194, 0, 0, 0, 4, 0, 0, 1, 8, 4, 64, 131, 131, 131, 130, 130, 130, 130, 130, 130, 130, 0, 0, 130, 130, 130, 131, 0, 130, 0, 0, 130, 255, 131, 131, 255, 0, 195, 1, 8, 4, 0, 0, 0, 130, 130, 130, 130, 0, 130, 131, 131, 195, 131, 195, 130, 130, 131, 195, 0, 131, 131, 131, 0]
def flagSegs : List Seg := [.r 70 2 fun j => [.int .u8 (nthI ndL j), .int .u8 (nthI stL j)]]
/-- Needs, Sets -/
def nd (op : Int) : Int := cond (iLt op 0) 0 (cond (iLe 70 op) 0 (nthI ndL op.toNat))
def st (op : Int) : Int := cond (iLt op 0) 0 (cond (iLe 70 op) 0 (nthI stL op.toNat))
def sNeeds : List AV → Option AV
  | [.ac (.one (.val (.int .i64 op)))] => some (u8 (nd op))
  | _ => none
def sSets : List AV → Option AV
  | [.ac (.one (.val (.int .i64 op)))] => some (u8 (st op))
  | _ => none
theorem int70 (op : Int) : (∃ n, op = .negSucc n) ∨ (∃ n, op = .ofNat (n + 70)) ∨ ∃ n : Nat, n < 70 ∧ op = n := by
  cases op with
  | negSucc n => exact .inl ⟨n, rfl⟩
  | ofNat n =>
    by_cases h : 70 ≤ n
    · exact .inr (.inl ⟨n - 70, by congr 1; omega⟩)
    · exact .inr (.inr ⟨n, by omega, rfl⟩)
end Ev

namespace Ev
open Go

abbrev B (x : Int) : BitVec 8 := BitVec.ofInt 8 x

theorem wrap8 (x : Int) : IntKind.u8.wrap x = x % 256 := by
  simp [IntKind.wrap, IntKind.bits, IntKind.signed]
theorem wrap8_lt {x : Int} (h0 : 0 ≤ x) (h : x < 256) : IntKind.u8.wrap x = x := by rw [wrap8]; omega
theorem wrap8_nat (v : BitVec 8) : IntKind.u8.wrap (v.toNat : Int) = (v.toNat : Int) := wrap8_lt (by omega) (by have := v.isLt; omega)
theorem B_nat (v : BitVec 8) : B (v.toNat : Int) = v := by
  unfold B; rw [BitVec.ofInt_natCast]; simp
theorem bAnd_eq (x y : Int) : bAnd .u8 x y = ((B x &&& B y).toNat : Int) := wrap8_nat _
theorem bOr_eq (x y : Int) : bOr .u8 x y = ((B x ||| B y).toNat : Int) := wrap8_nat _
theorem bXor_eq (x y : Int) : bXor .u8 x y = ((B x ^^^ B y).toNat : Int) := wrap8_nat _
theorem bAndNot_eq (x y : Int) : bAndNot .u8 x y = ((B x &&& ~~~ B y).toNat : Int) := wrap8_nat _
theorem B_and (x y : Int) : B (bAnd .u8 x y) = B x &&& B y := by rw [bAnd_eq, B_nat]
theorem B_or (x y : Int) : B (bOr .u8 x y) = B x ||| B y := by rw [bOr_eq, B_nat]
theorem B_xor (x y : Int) : B (bXor .u8 x y) = B x ^^^ B y := by rw [bXor_eq, B_nat]
theorem B_andNot (x y : Int) : B (bAndNot .u8 x y) = B x &&& ~~~ B y := by rw [bAndNot_eq, B_nat]

/-- a bit of a flag byte -/
def bit (i : Nat) (x : Int) : Bool := (B x).getLsbD i

theorem and_ne (x : Int) (i : Nat) (hi : i < 8) : (bAnd .u8 x (2 ^ i : Nat) != 0) = bit i x := by
  rw [bAnd_eq]
  unfold bit
  have hB : B ((2 ^ i : Nat) : Int) = BitVec.twoPow 8 i := by
    unfold B; rw [BitVec.ofInt_natCast]; apply BitVec.eq_of_toNat_eq; simp
  rw [hB]
  cases h : (B x).getLsbD i with
  | true =>
    have : B x &&& BitVec.twoPow 8 i ≠ 0#8 := fun h0 => by
      have := congrArg (fun v => BitVec.getLsbD v i) h0
      have h' : (B x)[i] = true := by rw [← BitVec.getLsbD_eq_getElem hi]; exact h
      simp [h', hi] at this
    have h2 : (B x &&& BitVec.twoPow 8 i).toNat ≠ 0 := fun h0 => this (BitVec.eq_of_toNat_eq (by simpa using h0))
    simp only [bne_iff_ne, ne_eq]
    omega
  | false =>
    have : B x &&& BitVec.twoPow 8 i = 0#8 := by
      apply BitVec.eq_of_getLsbD_eq
      intro j hj
      by_cases hij : i = j
      · subst hij; simp [h]
      · simp [BitVec.getLsbD_twoPow, hij]
    rw [this]; rfl

theorem bit_and (i : Nat) (x y : Int) : bit i (bAnd .u8 x y) = (bit i x && bit i y) := by unfold bit; rw [B_and]; simp
theorem bit_or (i : Nat) (x y : Int) : bit i (bOr .u8 x y) = (bit i x || bit i y) := by unfold bit; rw [B_or]; simp
theorem bit_xor (i : Nat) (x y : Int) : bit i (bXor .u8 x y) = (bit i x ^^ bit i y) := by unfold bit; rw [B_xor]; simp
theorem bit_andNot (i : Nat) (hi : i < 8) (x y : Int) : bit i (bAndNot .u8 x y) = (bit i x && !bit i y) := by unfold bit; rw [B_andNot]; simp [hi]

theorem bit_fPut (i : Nat) (hi : i < 8) (p f : Int) (s : Bool) : bit i (fPut p f s) = cond (bit i f) s (bit i p) := by
  unfold fPut
  cases s with
  | true => simp only [cond_true, bit_or]; cases bit i f <;> cases bit i p <;> rfl
  | false => simp only [cond_false, bit_andNot i hi]; cases bit i f <;> cases bit i p <;> rfl

theorem bit_fNz (i : Nat) (hi : i < 8) (r p : Int) : bit i (fNz r p) = if i = 1 then r == 0 else if i = 7 then bit 7 r else bit i p := by
  have h : i = 0 ∨ i = 1 ∨ i = 2 ∨ i = 3 ∨ i = 4 ∨ i = 5 ∨ i = 6 ∨ i = 7 := by omega
  unfold fNz
  rcases h with rfl | rfl | rfl | rfl | rfl | rfl | rfl | rfl <;> cases r == 0 <;> simp [bit_or, bit_and, bit_andNot] <;> simp [bit]

theorem bit0_mod {m : Int} (h0 : 0 ≤ m) (h : m < 256) : bit 0 m = (m % 2 == 1) := by
  obtain ⟨n, rfl⟩ := Int.eq_ofNat_of_zero_le h0
  unfold bit B
  rw [BitVec.ofInt_natCast]
  simp only [BitVec.getLsbD_ofNat, Nat.testBit_zero]
  have : (n : Int) % 2 = ((n % 2 : Nat) : Int) := by omega
  rw [this]
  rcases Nat.mod_two_eq_zero_or_one n with h | h <;> simp [h]

theorem and1 (x : Int) : (bAnd .u8 x 1 != 0) = bit 0 x := and_ne x 0 (by omega)
theorem and2 (x : Int) : (bAnd .u8 x 2 != 0) = bit 1 x := and_ne x 1 (by omega)
theorem and8 (x : Int) : (bAnd .u8 x 8 != 0) = bit 3 x := and_ne x 3 (by omega)
theorem and128 (x : Int) : (bAnd .u8 x 128 != 0) = bit 7 x := and_ne x 7 (by omega)
theorem and8' (x : Int) : (bAnd .u8 x 8 == 0) = !bit 3 x := by rw [← and8]; simp [bne]
theorem bAnd1 (x : Int) : bAnd .u8 x 1 = if bit 0 x then 1 else 0 := by
  have h := and1 x
  have hlt : bAnd .u8 x 1 = 0 ∨ bAnd .u8 x 1 = 1 := by
    rw [bAnd_eq]
    have : (B x &&& B 1).toNat < 2 := by
      rw [BitVec.toNat_and]
      exact Nat.lt_of_le_of_lt Nat.and_le_right (by decide)
    omega
  rcases hlt with h1 | h1 <;> rw [h1] at h <;> simp at h <;> simp [h1, ← h]

theorem u8_range (v : BitVec 8) : 0 ≤ (v.toNat : Int) ∧ (v.toNat : Int) < 256 := by have := v.isLt; omega
/-- a byte -/
def U8 (x : Int) : Prop := 0 ≤ x ∧ x < 256
theorem wrap64 {x : Int} (h0 : -9223372036854775808 ≤ x) (h : x < 9223372036854775808) : IntKind.i64.wrap x = x := by
  have e1 : (2 : Int) ^ 64 = 18446744073709551616 := by decide
  have e2 : (2 : Int) ^ (64 - 1) = 9223372036854775808 := by decide
  simp only [IntKind.wrap, IntKind.bits, IntKind.signed, e1, e2, Bool.true_and, decide_eq_true_eq]
  split <;> omega

theorem fSum_eq {a m p : Int} (ha : U8 a) (hm : U8 m) : fSum a m p = a + m + (if bit 0 p then 1 else 0) := by
  unfold U8 at ha hm
  unfold fSum
  rw [bAnd1]
  split <;> (rw [wrap64 (x := a) (by omega) (by omega), wrap64 (x := m) (by omega) (by omega), wrap64 (x := a + m) (by omega) (by omega)] <;> first | (rw [wrap64 (x := 1) (by omega) (by omega), wrap64 (by omega) (by omega)]) | (rw [wrap64 (x := 0) (by omega) (by omega), wrap64 (by omega) (by omega)]))

theorem fAdc_ok {a m p : Int} (ha : U8 a) (hm : U8 m) (hd : bit 3 p = false) :
    (fAdc a m p).1 = (a + m + (if bit 0 p then 1 else 0)) % 256 ∧ bit 0 (fAdc a m p).2 = decide (255 < a + m + (if bit 0 p then 1 else 0)) ∧ bit 3 (fAdc a m p).2 = false := by
  unfold fAdc
  rw [and8', hd]
  simp only [Bool.not_false, cond_true, adcB]
  rw [fSum_eq ha hm, wrap8]
  refine ⟨rfl, ?_, ?_⟩
  · rw [bit_fNz 0 (by omega)]
    simp only [show (0 : Nat) ≠ 1 by omega, show (0 : Nat) ≠ 7 by omega, if_false]
    rw [bit_fPut 0 (by omega), show bit 0 64 = false by decide]
    simp only [cond_false]
    rw [bit_fPut 0 (by omega), show bit 0 1 = true by decide]
    exact iLt_eq _ _
  · rw [bit_fNz 3 (by omega)]
    simp only [show (3 : Nat) ≠ 1 by omega, show (3 : Nat) ≠ 7 by omega, if_false]
    rw [bit_fPut 3 (by omega), show bit 3 64 = false by decide]
    simp only [cond_false]
    rw [bit_fPut 3 (by omega), show bit 3 1 = false by decide]
    exact hd

theorem iShr1 {m : Int} : iShr .u8 m 1 = m / 2 := by
  unfold iShr; rw [Int.fdiv_eq_ediv_of_nonneg]; rfl; decide
theorem iShl1 (m : Int) : iShl .u8 m 1 = (m * 2) % 256 := by
  unfold iShl; rw [wrap8]; rfl

theorem bOr_nat {n k : Nat} (hn : n < 256) (hk : k < 256) : bOr .u8 (n : Int) (k : Int) = ((n ||| k : Nat) : Int) := by
  rw [bOr_eq]
  unfold B
  rw [BitVec.ofInt_natCast, BitVec.ofInt_natCast, BitVec.toNat_or, BitVec.toNat_ofNat, BitVec.toNat_ofNat, Nat.mod_eq_of_lt (by omega), Nat.mod_eq_of_lt (by omega)]

/-- ROR -/
theorem ror_eq {m p : Int} (hm : U8 m) : fShR 40 m p = m / 2 + (if bit 0 p then 128 else 0) := by
  unfold fShR
  simp only [show ((40 : Int) = 2) = False by simp, show ((40 : Int) = 32) = False by simp, show ((40 : Int) = 39) = False by simp, if_false]
  rw [iShr1, bAnd1]
  obtain ⟨n, rfl⟩ := Int.eq_ofNat_of_zero_le hm.1
  have hn : n < 256 := by have := hm.2; omega
  rw [show (n : Int) / 2 = ((n / 2 : Nat) : Int) by omega]
  cases bit 0 p with
  | true =>
    simp only [if_true]
    rw [show iShl .u8 1 7 = ((128 : Nat) : Int) by decide, bOr_nat (by omega) (by omega), Nat.or_comm]
    have := Nat.two_pow_add_eq_or_of_lt (i := 7) (b := n / 2) (by omega) 1
    simp only [Nat.mul_one, show (2 : Nat) ^ 7 = 128 by decide] at this
    rw [← this]; omega
  | false =>
    simp only [Bool.false_eq_true, if_false]
    rw [show iShl .u8 0 7 = ((0 : Nat) : Int) by decide, bOr_nat (by omega) (by omega), Nat.or_zero]; omega
theorem ror_bits {m p : Int} (hm : U8 m) : bit 0 (fShP 40 m p) = (m % 2 == 1) ∧ bit 3 (fShP 40 m p) = bit 3 p := by
  unfold fShP
  simp only [show ((40 : Int) = 2) = False by simp, show ((40 : Int) = 39) = False by simp, if_false]
  constructor
  · rw [bit_fNz 0 (by omega)]
    simp only [show (0 : Nat) ≠ 1 by omega, show (0 : Nat) ≠ 7 by omega, if_false]
    rw [bit_fPut 0 (by omega), show bit 0 1 = true by decide, cond_true, and1, bit0_mod hm.1 hm.2]
  · rw [bit_fNz 3 (by omega)]
    simp only [show (3 : Nat) ≠ 1 by omega, show (3 : Nat) ≠ 7 by omega, if_false]
    rw [bit_fPut 3 (by omega), show bit 3 1 = false by decide, cond_false]
theorem lsr_eq (m p : Int) : fShR 32 m p = m / 2 := by
  unfold fShR
  simp only [show ((32 : Int) = 2) = False by simp, if_false, if_true]
  exact iShr1
theorem lsr_bits {m p : Int} (hm : U8 m) : bit 0 (fShP 32 m p) = (m % 2 == 1) ∧ bit 3 (fShP 32 m p) = bit 3 p := by
  unfold fShP
  simp only [show ((32 : Int) = 2) = False by simp, show ((32 : Int) = 39) = False by simp, if_false]
  constructor
  · rw [bit_fNz 0 (by omega)]
    simp only [show (0 : Nat) ≠ 1 by omega, show (0 : Nat) ≠ 7 by omega, if_false]
    rw [bit_fPut 0 (by omega), show bit 0 1 = true by decide, cond_true, and1, bit0_mod hm.1 hm.2]
  · rw [bit_fNz 3 (by omega)]
    simp only [show (3 : Nat) ≠ 1 by omega, show (3 : Nat) ≠ 7 by omega, if_false]
    rw [bit_fPut 3 (by omega), show bit 3 1 = false by decide, cond_false]
end Ev

namespace Ev
open Go

/-! ## alu: which flags an operation looks at, and which it puts anew -/
theorem b0_0 : bit 0 0 = false := by kernel_rfl
theorem b1_0 : bit 1 0 = false := by kernel_rfl
theorem b2_0 : bit 2 0 = false := by kernel_rfl
theorem b3_0 : bit 3 0 = false := by kernel_rfl
theorem b4_0 : bit 4 0 = false := by kernel_rfl
theorem b5_0 : bit 5 0 = false := by kernel_rfl
theorem b6_0 : bit 6 0 = false := by kernel_rfl
theorem b7_0 : bit 7 0 = false := by kernel_rfl
theorem b0_1 : bit 0 1 = true := by kernel_rfl
theorem b1_1 : bit 1 1 = false := by kernel_rfl
theorem b2_1 : bit 2 1 = false := by kernel_rfl
theorem b3_1 : bit 3 1 = false := by kernel_rfl
theorem b4_1 : bit 4 1 = false := by kernel_rfl
theorem b5_1 : bit 5 1 = false := by kernel_rfl
theorem b6_1 : bit 6 1 = false := by kernel_rfl
theorem b7_1 : bit 7 1 = false := by kernel_rfl
theorem b0_2 : bit 0 2 = false := by kernel_rfl
theorem b1_2 : bit 1 2 = true := by kernel_rfl
theorem b2_2 : bit 2 2 = false := by kernel_rfl
theorem b3_2 : bit 3 2 = false := by kernel_rfl
theorem b4_2 : bit 4 2 = false := by kernel_rfl
theorem b5_2 : bit 5 2 = false := by kernel_rfl
theorem b6_2 : bit 6 2 = false := by kernel_rfl
theorem b7_2 : bit 7 2 = false := by kernel_rfl
theorem b0_4 : bit 0 4 = false := by kernel_rfl
theorem b1_4 : bit 1 4 = false := by kernel_rfl
theorem b2_4 : bit 2 4 = true := by kernel_rfl
theorem b3_4 : bit 3 4 = false := by kernel_rfl
theorem b4_4 : bit 4 4 = false := by kernel_rfl
theorem b5_4 : bit 5 4 = false := by kernel_rfl
theorem b6_4 : bit 6 4 = false := by kernel_rfl
theorem b7_4 : bit 7 4 = false := by kernel_rfl
theorem b0_8 : bit 0 8 = false := by kernel_rfl
theorem b1_8 : bit 1 8 = false := by kernel_rfl
theorem b2_8 : bit 2 8 = false := by kernel_rfl
theorem b3_8 : bit 3 8 = true := by kernel_rfl
theorem b4_8 : bit 4 8 = false := by kernel_rfl
theorem b5_8 : bit 5 8 = false := by kernel_rfl
theorem b6_8 : bit 6 8 = false := by kernel_rfl
theorem b7_8 : bit 7 8 = false := by kernel_rfl
theorem b0_9 : bit 0 9 = true := by kernel_rfl
theorem b1_9 : bit 1 9 = false := by kernel_rfl
theorem b2_9 : bit 2 9 = false := by kernel_rfl
theorem b3_9 : bit 3 9 = true := by kernel_rfl
theorem b4_9 : bit 4 9 = false := by kernel_rfl
theorem b5_9 : bit 5 9 = false := by kernel_rfl
theorem b6_9 : bit 6 9 = false := by kernel_rfl
theorem b7_9 : bit 7 9 = false := by kernel_rfl
theorem b0_16 : bit 0 16 = false := by kernel_rfl
theorem b1_16 : bit 1 16 = false := by kernel_rfl
theorem b2_16 : bit 2 16 = false := by kernel_rfl
theorem b3_16 : bit 3 16 = false := by kernel_rfl
theorem b4_16 : bit 4 16 = true := by kernel_rfl
theorem b5_16 : bit 5 16 = false := by kernel_rfl
theorem b6_16 : bit 6 16 = false := by kernel_rfl
theorem b7_16 : bit 7 16 = false := by kernel_rfl
theorem b0_32 : bit 0 32 = false := by kernel_rfl
theorem b1_32 : bit 1 32 = false := by kernel_rfl
theorem b2_32 : bit 2 32 = false := by kernel_rfl
theorem b3_32 : bit 3 32 = false := by kernel_rfl
theorem b4_32 : bit 4 32 = false := by kernel_rfl
theorem b5_32 : bit 5 32 = true := by kernel_rfl
theorem b6_32 : bit 6 32 = false := by kernel_rfl
theorem b7_32 : bit 7 32 = false := by kernel_rfl
theorem b0_48 : bit 0 48 = false := by kernel_rfl
theorem b1_48 : bit 1 48 = false := by kernel_rfl
theorem b2_48 : bit 2 48 = false := by kernel_rfl
theorem b3_48 : bit 3 48 = false := by kernel_rfl
theorem b4_48 : bit 4 48 = true := by kernel_rfl
theorem b5_48 : bit 5 48 = true := by kernel_rfl
theorem b6_48 : bit 6 48 = false := by kernel_rfl
theorem b7_48 : bit 7 48 = false := by kernel_rfl
theorem b0_64 : bit 0 64 = false := by kernel_rfl
theorem b1_64 : bit 1 64 = false := by kernel_rfl
theorem b2_64 : bit 2 64 = false := by kernel_rfl
theorem b3_64 : bit 3 64 = false := by kernel_rfl
theorem b4_64 : bit 4 64 = false := by kernel_rfl
theorem b5_64 : bit 5 64 = false := by kernel_rfl
theorem b6_64 : bit 6 64 = true := by kernel_rfl
theorem b7_64 : bit 7 64 = false := by kernel_rfl
theorem b0_128 : bit 0 128 = false := by kernel_rfl
theorem b1_128 : bit 1 128 = false := by kernel_rfl
theorem b2_128 : bit 2 128 = false := by kernel_rfl
theorem b3_128 : bit 3 128 = false := by kernel_rfl
theorem b4_128 : bit 4 128 = false := by kernel_rfl
theorem b5_128 : bit 5 128 = false := by kernel_rfl
theorem b6_128 : bit 6 128 = false := by kernel_rfl
theorem b7_128 : bit 7 128 = true := by kernel_rfl
theorem b0_130 : bit 0 130 = false := by kernel_rfl
theorem b1_130 : bit 1 130 = true := by kernel_rfl
theorem b2_130 : bit 2 130 = false := by kernel_rfl
theorem b3_130 : bit 3 130 = false := by kernel_rfl
theorem b4_130 : bit 4 130 = false := by kernel_rfl
theorem b5_130 : bit 5 130 = false := by kernel_rfl
theorem b6_130 : bit 6 130 = false := by kernel_rfl
theorem b7_130 : bit 7 130 = true := by kernel_rfl
theorem b0_131 : bit 0 131 = true := by kernel_rfl
theorem b1_131 : bit 1 131 = true := by kernel_rfl
theorem b2_131 : bit 2 131 = false := by kernel_rfl
theorem b3_131 : bit 3 131 = false := by kernel_rfl
theorem b4_131 : bit 4 131 = false := by kernel_rfl
theorem b5_131 : bit 5 131 = false := by kernel_rfl
theorem b6_131 : bit 6 131 = false := by kernel_rfl
theorem b7_131 : bit 7 131 = true := by kernel_rfl
theorem b0_194 : bit 0 194 = false := by kernel_rfl
theorem b1_194 : bit 1 194 = true := by kernel_rfl
theorem b2_194 : bit 2 194 = false := by kernel_rfl
theorem b3_194 : bit 3 194 = false := by kernel_rfl
theorem b4_194 : bit 4 194 = false := by kernel_rfl
theorem b5_194 : bit 5 194 = false := by kernel_rfl
theorem b6_194 : bit 6 194 = true := by kernel_rfl
theorem b7_194 : bit 7 194 = true := by kernel_rfl
theorem b0_195 : bit 0 195 = true := by kernel_rfl
theorem b1_195 : bit 1 195 = true := by kernel_rfl
theorem b2_195 : bit 2 195 = false := by kernel_rfl
theorem b3_195 : bit 3 195 = false := by kernel_rfl
theorem b4_195 : bit 4 195 = false := by kernel_rfl
theorem b5_195 : bit 5 195 = false := by kernel_rfl
theorem b6_195 : bit 6 195 = true := by kernel_rfl
theorem b7_195 : bit 7 195 = true := by kernel_rfl
theorem b0_207 : bit 0 207 = true := by kernel_rfl
theorem b1_207 : bit 1 207 = true := by kernel_rfl
theorem b2_207 : bit 2 207 = true := by kernel_rfl
theorem b3_207 : bit 3 207 = true := by kernel_rfl
theorem b4_207 : bit 4 207 = false := by kernel_rfl
theorem b5_207 : bit 5 207 = false := by kernel_rfl
theorem b6_207 : bit 6 207 = true := by kernel_rfl
theorem b7_207 : bit 7 207 = true := by kernel_rfl
theorem b0_255 : bit 0 255 = true := by kernel_rfl
theorem b1_255 : bit 1 255 = true := by kernel_rfl
theorem b2_255 : bit 2 255 = true := by kernel_rfl
theorem b3_255 : bit 3 255 = true := by kernel_rfl
theorem b4_255 : bit 4 255 = true := by kernel_rfl
theorem b5_255 : bit 5 255 = true := by kernel_rfl
theorem b6_255 : bit 6 255 = true := by kernel_rfl
theorem b7_255 : bit 7 255 = true := by kernel_rfl

theorem i8 {i : Nat} (h : i < 8) : i = 0 ∨ i = 1 ∨ i = 2 ∨ i = 3 ∨ i = 4 ∨ i = 5 ∨ i = 6 ∨ i = 7 := by omega

/-- a byte is its bits -/
theorem byte_ext {x y : Int} (hx : U8 x) (hy : U8 y) (h : ∀ i, i < 8 → bit i x = bit i y) : x = y := by
  have hB : B x = B y := by
    apply BitVec.eq_of_getLsbD_eq
    intro i hi
    exact h i hi
  have e : ∀ z, U8 z → ((B z).toNat : Int) = z := fun z hz => by
    obtain ⟨n, rfl⟩ := Int.eq_ofNat_of_zero_le hz.1
    have : n < 256 := by have := hz.2; omega
    unfold B
    rw [BitVec.ofInt_natCast, BitVec.toNat_ofNat, Nat.mod_eq_of_lt (by omega)]
  rw [← e x hx, ← e y hy, hB]

theorem U8_wrap (x : Int) : U8 (IntKind.u8.wrap x) := by rw [wrap8]; unfold U8; omega
theorem U8_and (x y : Int) : U8 (bAnd .u8 x y) := U8_wrap _
theorem U8_or (x y : Int) : U8 (bOr .u8 x y) := U8_wrap _
theorem U8_xor (x y : Int) : U8 (bXor .u8 x y) := U8_wrap _
theorem U8_andNot (x y : Int) : U8 (bAndNot .u8 x y) := U8_wrap _
theorem U8_cond {b : Bool} {x y : Int} (hx : U8 x) (hy : U8 y) : U8 (cond b x y) := by cases b <;> assumption
theorem U8_fNz (r p : Int) : U8 (fNz r p) := U8_cond (U8_or _ _) (U8_or _ _)
theorem U8_fPut (p f : Int) (s : Bool) : U8 (fPut p f s) := U8_cond (U8_or _ _) (U8_andNot _ _)

theorem and1_congr {p q : Int} (h : bit 0 p = bit 0 q) : bAnd .u8 p 1 = bAnd .u8 q 1 := by rw [bAnd1, bAnd1, h]
theorem and_congr {p q c : Int} (h : ∀ i, i < 8 → bit i c = true → bit i p = bit i q) : bAnd .u8 p c = bAnd .u8 q c :=
  byte_ext (U8_and _ _) (U8_and _ _) fun i hi => by
    rw [bit_and, bit_and]
    cases hc : bit i c with
    | false => simp
    | true => rw [h i hi hc]
theorem and8_congr {p q : Int} (h : bit 3 p = bit 3 q) : bAnd .u8 p 8 = bAnd .u8 q 8 :=
  and_congr fun i hi hc => by
    rcases i8 hi with rfl | rfl | rfl | rfl | rfl | rfl | rfl | rfl <;> simp only [b0_8, b1_8, b2_8, b3_8, b4_8, b5_8, b6_8, b7_8] at hc <;> first | exact h | cases hc

theorem nz0 (r p : Int) : bit 0 (fNz r p) = bit 0 p := by rw [bit_fNz 0 (by omega)]; rfl
theorem nz1 (r p : Int) : bit 1 (fNz r p) = (r == 0) := by rw [bit_fNz 1 (by omega)]; rfl
theorem nz2 (r p : Int) : bit 2 (fNz r p) = bit 2 p := by rw [bit_fNz 2 (by omega)]; rfl
theorem nz3 (r p : Int) : bit 3 (fNz r p) = bit 3 p := by rw [bit_fNz 3 (by omega)]; rfl
theorem nz4 (r p : Int) : bit 4 (fNz r p) = bit 4 p := by rw [bit_fNz 4 (by omega)]; rfl
theorem nz5 (r p : Int) : bit 5 (fNz r p) = bit 5 p := by rw [bit_fNz 5 (by omega)]; rfl
theorem nz6 (r p : Int) : bit 6 (fNz r p) = bit 6 p := by rw [bit_fNz 6 (by omega)]; rfl
theorem nz7 (r p : Int) : bit 7 (fNz r p) = bit 7 r := by rw [bit_fNz 7 (by omega)]; rfl
theorem pt0_1 (p : Int) (s : Bool) : bit 0 (fPut p 1 s) = s := by rw [bit_fPut 0 (by omega), b0_1]; rfl
theorem pt1_1 (p : Int) (s : Bool) : bit 1 (fPut p 1 s) = bit 1 p := by rw [bit_fPut 1 (by omega), b1_1]; rfl
theorem pt2_1 (p : Int) (s : Bool) : bit 2 (fPut p 1 s) = bit 2 p := by rw [bit_fPut 2 (by omega), b2_1]; rfl
theorem pt3_1 (p : Int) (s : Bool) : bit 3 (fPut p 1 s) = bit 3 p := by rw [bit_fPut 3 (by omega), b3_1]; rfl
theorem pt4_1 (p : Int) (s : Bool) : bit 4 (fPut p 1 s) = bit 4 p := by rw [bit_fPut 4 (by omega), b4_1]; rfl
theorem pt5_1 (p : Int) (s : Bool) : bit 5 (fPut p 1 s) = bit 5 p := by rw [bit_fPut 5 (by omega), b5_1]; rfl
theorem pt6_1 (p : Int) (s : Bool) : bit 6 (fPut p 1 s) = bit 6 p := by rw [bit_fPut 6 (by omega), b6_1]; rfl
theorem pt7_1 (p : Int) (s : Bool) : bit 7 (fPut p 1 s) = bit 7 p := by rw [bit_fPut 7 (by omega), b7_1]; rfl
theorem pt0_2 (p : Int) (s : Bool) : bit 0 (fPut p 2 s) = bit 0 p := by rw [bit_fPut 0 (by omega), b0_2]; rfl
theorem pt1_2 (p : Int) (s : Bool) : bit 1 (fPut p 2 s) = s := by rw [bit_fPut 1 (by omega), b1_2]; rfl
theorem pt2_2 (p : Int) (s : Bool) : bit 2 (fPut p 2 s) = bit 2 p := by rw [bit_fPut 2 (by omega), b2_2]; rfl
theorem pt3_2 (p : Int) (s : Bool) : bit 3 (fPut p 2 s) = bit 3 p := by rw [bit_fPut 3 (by omega), b3_2]; rfl
theorem pt4_2 (p : Int) (s : Bool) : bit 4 (fPut p 2 s) = bit 4 p := by rw [bit_fPut 4 (by omega), b4_2]; rfl
theorem pt5_2 (p : Int) (s : Bool) : bit 5 (fPut p 2 s) = bit 5 p := by rw [bit_fPut 5 (by omega), b5_2]; rfl
theorem pt6_2 (p : Int) (s : Bool) : bit 6 (fPut p 2 s) = bit 6 p := by rw [bit_fPut 6 (by omega), b6_2]; rfl
theorem pt7_2 (p : Int) (s : Bool) : bit 7 (fPut p 2 s) = bit 7 p := by rw [bit_fPut 7 (by omega), b7_2]; rfl
theorem pt0_4 (p : Int) (s : Bool) : bit 0 (fPut p 4 s) = bit 0 p := by rw [bit_fPut 0 (by omega), b0_4]; rfl
theorem pt1_4 (p : Int) (s : Bool) : bit 1 (fPut p 4 s) = bit 1 p := by rw [bit_fPut 1 (by omega), b1_4]; rfl
theorem pt2_4 (p : Int) (s : Bool) : bit 2 (fPut p 4 s) = s := by rw [bit_fPut 2 (by omega), b2_4]; rfl
theorem pt3_4 (p : Int) (s : Bool) : bit 3 (fPut p 4 s) = bit 3 p := by rw [bit_fPut 3 (by omega), b3_4]; rfl
theorem pt4_4 (p : Int) (s : Bool) : bit 4 (fPut p 4 s) = bit 4 p := by rw [bit_fPut 4 (by omega), b4_4]; rfl
theorem pt5_4 (p : Int) (s : Bool) : bit 5 (fPut p 4 s) = bit 5 p := by rw [bit_fPut 5 (by omega), b5_4]; rfl
theorem pt6_4 (p : Int) (s : Bool) : bit 6 (fPut p 4 s) = bit 6 p := by rw [bit_fPut 6 (by omega), b6_4]; rfl
theorem pt7_4 (p : Int) (s : Bool) : bit 7 (fPut p 4 s) = bit 7 p := by rw [bit_fPut 7 (by omega), b7_4]; rfl
theorem pt0_8 (p : Int) (s : Bool) : bit 0 (fPut p 8 s) = bit 0 p := by rw [bit_fPut 0 (by omega), b0_8]; rfl
theorem pt1_8 (p : Int) (s : Bool) : bit 1 (fPut p 8 s) = bit 1 p := by rw [bit_fPut 1 (by omega), b1_8]; rfl
theorem pt2_8 (p : Int) (s : Bool) : bit 2 (fPut p 8 s) = bit 2 p := by rw [bit_fPut 2 (by omega), b2_8]; rfl
theorem pt3_8 (p : Int) (s : Bool) : bit 3 (fPut p 8 s) = s := by rw [bit_fPut 3 (by omega), b3_8]; rfl
theorem pt4_8 (p : Int) (s : Bool) : bit 4 (fPut p 8 s) = bit 4 p := by rw [bit_fPut 4 (by omega), b4_8]; rfl
theorem pt5_8 (p : Int) (s : Bool) : bit 5 (fPut p 8 s) = bit 5 p := by rw [bit_fPut 5 (by omega), b5_8]; rfl
theorem pt6_8 (p : Int) (s : Bool) : bit 6 (fPut p 8 s) = bit 6 p := by rw [bit_fPut 6 (by omega), b6_8]; rfl
theorem pt7_8 (p : Int) (s : Bool) : bit 7 (fPut p 8 s) = bit 7 p := by rw [bit_fPut 7 (by omega), b7_8]; rfl
theorem pt0_64 (p : Int) (s : Bool) : bit 0 (fPut p 64 s) = bit 0 p := by rw [bit_fPut 0 (by omega), b0_64]; rfl
theorem pt1_64 (p : Int) (s : Bool) : bit 1 (fPut p 64 s) = bit 1 p := by rw [bit_fPut 1 (by omega), b1_64]; rfl
theorem pt2_64 (p : Int) (s : Bool) : bit 2 (fPut p 64 s) = bit 2 p := by rw [bit_fPut 2 (by omega), b2_64]; rfl
theorem pt3_64 (p : Int) (s : Bool) : bit 3 (fPut p 64 s) = bit 3 p := by rw [bit_fPut 3 (by omega), b3_64]; rfl
theorem pt4_64 (p : Int) (s : Bool) : bit 4 (fPut p 64 s) = bit 4 p := by rw [bit_fPut 4 (by omega), b4_64]; rfl
theorem pt5_64 (p : Int) (s : Bool) : bit 5 (fPut p 64 s) = bit 5 p := by rw [bit_fPut 5 (by omega), b5_64]; rfl
theorem pt6_64 (p : Int) (s : Bool) : bit 6 (fPut p 64 s) = s := by rw [bit_fPut 6 (by omega), b6_64]; rfl
theorem pt7_64 (p : Int) (s : Bool) : bit 7 (fPut p 64 s) = bit 7 p := by rw [bit_fPut 7 (by omega), b7_64]; rfl
theorem pt0_128 (p : Int) (s : Bool) : bit 0 (fPut p 128 s) = bit 0 p := by rw [bit_fPut 0 (by omega), b0_128]; rfl
theorem pt1_128 (p : Int) (s : Bool) : bit 1 (fPut p 128 s) = bit 1 p := by rw [bit_fPut 1 (by omega), b1_128]; rfl
theorem pt2_128 (p : Int) (s : Bool) : bit 2 (fPut p 128 s) = bit 2 p := by rw [bit_fPut 2 (by omega), b2_128]; rfl
theorem pt3_128 (p : Int) (s : Bool) : bit 3 (fPut p 128 s) = bit 3 p := by rw [bit_fPut 3 (by omega), b3_128]; rfl
theorem pt4_128 (p : Int) (s : Bool) : bit 4 (fPut p 128 s) = bit 4 p := by rw [bit_fPut 4 (by omega), b4_128]; rfl
theorem pt5_128 (p : Int) (s : Bool) : bit 5 (fPut p 128 s) = bit 5 p := by rw [bit_fPut 5 (by omega), b5_128]; rfl
theorem pt6_128 (p : Int) (s : Bool) : bit 6 (fPut p 128 s) = bit 6 p := by rw [bit_fPut 6 (by omega), b6_128]; rfl
theorem pt7_128 (p : Int) (s : Bool) : bit 7 (fPut p 128 s) = s := by rw [bit_fPut 7 (by omega), b7_128]; rfl

/-- the additions: flags kept, flags put, and what hangs on C and D alone -/
def Two (f : Int → Int → Int → Int × Int) : Prop := (∀ a m p i, i < 8 → bit i 195 = false → bit i (f a m p).2 = bit i p) ∧
  ∀ a m p q, bit 0 p = bit 0 q → bit 3 p = bit 3 q → (f a m q).1 = (f a m p).1 ∧ ∀ i, i < 8 → bit i 195 = true → bit i (f a m q).2 = bit i (f a m p).2

theorem adcB_keep (a m p : Int) (i : Nat) (hi : i < 8) (hs : bit i 195 = false) : bit i (adcB a m p).2 = bit i p := by
  unfold adcB
  rcases i8 hi with rfl | rfl | rfl | rfl | rfl | rfl | rfl | rfl <;> simp only [b0_195, b1_195, b2_195, b3_195, b4_195, b5_195, b6_195, b7_195] at hs <;> first | (cases hs; done) | (simp only [nz0, nz1, nz2, nz3, nz4, nz5, nz6, nz7, pt0_1, pt1_1, pt2_1, pt3_1, pt4_1, pt5_1, pt6_1, pt7_1, pt0_2, pt1_2, pt2_2, pt3_2, pt4_2, pt5_2, pt6_2, pt7_2, pt0_4, pt1_4, pt2_4, pt3_4, pt4_4, pt5_4, pt6_4, pt7_4, pt0_8, pt1_8, pt2_8, pt3_8, pt4_8, pt5_8, pt6_8, pt7_8, pt0_64, pt1_64, pt2_64, pt3_64, pt4_64, pt5_64, pt6_64, pt7_64, pt0_128, pt1_128, pt2_128, pt3_128, pt4_128, pt5_128, pt6_128, pt7_128])
theorem adcD_keep (a m p s t : Int) (i : Nat) (hi : i < 8) (hs : bit i 195 = false) : bit i (adcD a m p s t).2 = bit i p := by
  unfold adcD
  rcases i8 hi with rfl | rfl | rfl | rfl | rfl | rfl | rfl | rfl <;> simp only [b0_195, b1_195, b2_195, b3_195, b4_195, b5_195, b6_195, b7_195] at hs <;> first | (cases hs; done) | (simp only [nz0, nz1, nz2, nz3, nz4, nz5, nz6, nz7, pt0_1, pt1_1, pt2_1, pt3_1, pt4_1, pt5_1, pt6_1, pt7_1, pt0_2, pt1_2, pt2_2, pt3_2, pt4_2, pt5_2, pt6_2, pt7_2, pt0_4, pt1_4, pt2_4, pt3_4, pt4_4, pt5_4, pt6_4, pt7_4, pt0_8, pt1_8, pt2_8, pt3_8, pt4_8, pt5_8, pt6_8, pt7_8, pt0_64, pt1_64, pt2_64, pt3_64, pt4_64, pt5_64, pt6_64, pt7_64, pt0_128, pt1_128, pt2_128, pt3_128, pt4_128, pt5_128, pt6_128, pt7_128])
theorem two_cond {b : Bool} {x y : Int × Int} {P : Int × Int → Prop} (h1 : P x) (h2 : P y) : P (cond b x y) := by cases b <;> assumption
theorem adcB_cong (a m p q : Int) (h0 : bAnd .u8 p 1 = bAnd .u8 q 1) : (adcB a m q).1 = (adcB a m p).1 ∧ ∀ i, i < 8 → bit i 195 = true → bit i (adcB a m q).2 = bit i (adcB a m p).2 := by
  unfold adcB fSum
  rw [h0]
  refine ⟨rfl, fun i hi hs => ?_⟩
  rcases i8 hi with rfl | rfl | rfl | rfl | rfl | rfl | rfl | rfl <;> simp only [b0_195, b1_195, b2_195, b3_195, b4_195, b5_195, b6_195, b7_195] at hs <;> first | (cases hs; done) | (simp only [nz0, nz1, nz2, nz3, nz4, nz5, nz6, nz7, pt0_1, pt1_1, pt2_1, pt3_1, pt4_1, pt5_1, pt6_1, pt7_1, pt0_2, pt1_2, pt2_2, pt3_2, pt4_2, pt5_2, pt6_2, pt7_2, pt0_4, pt1_4, pt2_4, pt3_4, pt4_4, pt5_4, pt6_4, pt7_4, pt0_8, pt1_8, pt2_8, pt3_8, pt4_8, pt5_8, pt6_8, pt7_8, pt0_64, pt1_64, pt2_64, pt3_64, pt4_64, pt5_64, pt6_64, pt7_64, pt0_128, pt1_128, pt2_128, pt3_128, pt4_128, pt5_128, pt6_128, pt7_128])
theorem adcD_cong (a m p q s t : Int) (h0 : bAnd .u8 p 1 = bAnd .u8 q 1) : (adcD a m q s t).1 = (adcD a m p s t).1 ∧ ∀ i, i < 8 → bit i 195 = true → bit i (adcD a m q s t).2 = bit i (adcD a m p s t).2 := by
  unfold adcD fSum
  rw [h0]
  refine ⟨rfl, fun i hi hs => ?_⟩
  rcases i8 hi with rfl | rfl | rfl | rfl | rfl | rfl | rfl | rfl <;> simp only [b0_195, b1_195, b2_195, b3_195, b4_195, b5_195, b6_195, b7_195] at hs <;> first | (cases hs; done) | (simp only [nz0, nz1, nz2, nz3, nz4, nz5, nz6, nz7, pt0_1, pt1_1, pt2_1, pt3_1, pt4_1, pt5_1, pt6_1, pt7_1, pt0_2, pt1_2, pt2_2, pt3_2, pt4_2, pt5_2, pt6_2, pt7_2, pt0_4, pt1_4, pt2_4, pt3_4, pt4_4, pt5_4, pt6_4, pt7_4, pt0_8, pt1_8, pt2_8, pt3_8, pt4_8, pt5_8, pt6_8, pt7_8, pt0_64, pt1_64, pt2_64, pt3_64, pt4_64, pt5_64, pt6_64, pt7_64, pt0_128, pt1_128, pt2_128, pt3_128, pt4_128, pt5_128, pt6_128, pt7_128])
theorem two_adc : Two fAdc := by
  refine ⟨fun a m p i hi hs => ?_, fun a m p q h0 h3 => ?_⟩
  · unfold fAdc
    exact two_cond (P := fun x => bit i x.2 = bit i p) (adcB_keep a m p i hi hs) (two_cond (P := fun x => bit i x.2 = bit i p) (two_cond (P := fun x => bit i x.2 = bit i p) (adcD_keep _ _ _ _ _ i hi hs) (adcD_keep _ _ _ _ _ i hi hs)) (two_cond (P := fun x => bit i x.2 = bit i p) (adcD_keep _ _ _ _ _ i hi hs) (adcD_keep _ _ _ _ _ i hi hs)))
  · have e0 := and1_congr h0
    have e3 := and8_congr h3
    have eL : adcL a m q = adcL a m p := by unfold adcL; rw [e0]
    unfold fAdc
    rw [← e3, eL]
    cases (bAnd .u8 p 8 == 0) <;> cases (iLt 9 (adcL a m p)) <;> cases (iLe 160 (adcS a m (adcH (adcL a m p)))) <;> cases (iLe 160 (adcS a m (adcL a m p))) <;> simp only [cond_true, cond_false] <;> first | exact adcB_cong a m p q e0 | exact adcD_cong a m p q _ _ e0
theorem two_sbc : Two fSbc := by
  refine ⟨fun a m p i hi hs => ?_, fun a m p q h0 h3 => ?_⟩
  · unfold fSbc sbcP
    rcases i8 hi with rfl | rfl | rfl | rfl | rfl | rfl | rfl | rfl <;> simp only [b0_195, b1_195, b2_195, b3_195, b4_195, b5_195, b6_195, b7_195] at hs <;> first | (cases hs; done) | (simp only [nz0, nz1, nz2, nz3, nz4, nz5, nz6, nz7, pt0_1, pt1_1, pt2_1, pt3_1, pt4_1, pt5_1, pt6_1, pt7_1, pt0_2, pt1_2, pt2_2, pt3_2, pt4_2, pt5_2, pt6_2, pt7_2, pt0_4, pt1_4, pt2_4, pt3_4, pt4_4, pt5_4, pt6_4, pt7_4, pt0_8, pt1_8, pt2_8, pt3_8, pt4_8, pt5_8, pt6_8, pt7_8, pt0_64, pt1_64, pt2_64, pt3_64, pt4_64, pt5_64, pt6_64, pt7_64, pt0_128, pt1_128, pt2_128, pt3_128, pt4_128, pt5_128, pt6_128, pt7_128])
  · have e0 := and1_congr h0
    have e3 := and8_congr h3
    have eW : sbcW q = sbcW p := by unfold sbcW; rw [e0]
    have eD : fDif a m q = fDif a m p := by unfold fDif; rw [eW]
    have eL : sbcL a m q = sbcL a m p := by unfold sbcL; rw [eW]
    unfold fSbc sbcR sbcP
    simp only [eD, eL, ← e3]
    refine ⟨trivial, fun i hi hs => ?_⟩
    rcases i8 hi with rfl | rfl | rfl | rfl | rfl | rfl | rfl | rfl <;> simp only [b0_195, b1_195, b2_195, b3_195, b4_195, b5_195, b6_195, b7_195] at hs <;> first | (cases hs; done) | (simp only [nz0, nz1, nz2, nz3, nz4, nz5, nz6, nz7, pt0_1, pt1_1, pt2_1, pt3_1, pt4_1, pt5_1, pt6_1, pt7_1, pt0_2, pt1_2, pt2_2, pt3_2, pt4_2, pt5_2, pt6_2, pt7_2, pt0_4, pt1_4, pt2_4, pt3_4, pt4_4, pt5_4, pt6_4, pt7_4, pt0_8, pt1_8, pt2_8, pt3_8, pt4_8, pt5_8, pt6_8, pt7_8, pt0_64, pt1_64, pt2_64, pt3_64, pt4_64, pt5_64, pt6_64, pt7_64, pt0_128, pt1_128, pt2_128, pt3_128, pt4_128, pt5_128, pt6_128, pt7_128])
theorem two_arr : Two fArr := by
  refine ⟨fun a m p i hi hs => ?_, fun a m p q h0 h3 => ?_⟩
  · unfold fArr arrB arrQ
    generalize arrL a m = u
    generalize arrH a m = v
    generalize (bAnd .u8 p 8 == 0) = d
    cases d <;> cases u <;> cases v <;> simp only [cond_true, cond_false] <;> rcases i8 hi with rfl | rfl | rfl | rfl | rfl | rfl | rfl | rfl <;> simp only [b0_195, b1_195, b2_195, b3_195, b4_195, b5_195, b6_195, b7_195] at hs <;> first | (cases hs; done) | (simp only [nz0, nz1, nz2, nz3, nz4, nz5, nz6, nz7, pt0_1, pt1_1, pt2_1, pt3_1, pt4_1, pt5_1, pt6_1, pt7_1, pt0_2, pt1_2, pt2_2, pt3_2, pt4_2, pt5_2, pt6_2, pt7_2, pt0_4, pt1_4, pt2_4, pt3_4, pt4_4, pt5_4, pt6_4, pt7_4, pt0_8, pt1_8, pt2_8, pt3_8, pt4_8, pt5_8, pt6_8, pt7_8, pt0_64, pt1_64, pt2_64, pt3_64, pt4_64, pt5_64, pt6_64, pt7_64, pt0_128, pt1_128, pt2_128, pt3_128, pt4_128, pt5_128, pt6_128, pt7_128])
  · have e0 := and1_congr h0
    have e3 := and8_congr h3
    have eR : arrR a m q = arrR a m p := by unfold arrR; rw [e0]
    unfold fArr arrB arrQ
    rw [eR, ← e3]
    generalize arrL a m = u
    generalize arrH a m = v
    generalize (bAnd .u8 p 8 == 0) = d
    cases d <;> cases u <;> cases v <;> simp only [cond_true, cond_false] <;> refine ⟨by trivial, fun i hi hs => ?_⟩ <;> rcases i8 hi with rfl | rfl | rfl | rfl | rfl | rfl | rfl | rfl <;> simp only [b0_195, b1_195, b2_195, b3_195, b4_195, b5_195, b6_195, b7_195] at hs <;> first | (cases hs; done) | (simp only [nz0, nz1, nz2, nz3, nz4, nz5, nz6, nz7, pt0_1, pt1_1, pt2_1, pt3_1, pt4_1, pt5_1, pt6_1, pt7_1, pt0_2, pt1_2, pt2_2, pt3_2, pt4_2, pt5_2, pt6_2, pt7_2, pt0_4, pt1_4, pt2_4, pt3_4, pt4_4, pt5_4, pt6_4, pt7_4, pt0_8, pt1_8, pt2_8, pt3_8, pt4_8, pt5_8, pt6_8, pt7_8, pt0_64, pt1_64, pt2_64, pt3_64, pt4_64, pt5_64, pt6_64, pt7_64, pt0_128, pt1_128, pt2_128, pt3_128, pt4_128, pt5_128, pt6_128, pt7_128])

/-- an operation and its flags: registers and operand hang on the flags that it needs; so do the flags that it puts; the others stay -/
def Flg (f : Rg → Rg) (st : Int) (r : Rg) (q : Int) : Prop :=
  f { r with p := q } = { f r with p := (f { r with p := q }).p } ∧ (∀ i, i < 8 → bit i st = true → bit i (f { r with p := q }).p = bit i (f r).p) ∧ (∀ i, i < 8 → bit i st = false → bit i (f r).p = bit i r.p)
/-- the two flag bytes agree where it matters -/
def Agr (n p q : Int) : Prop := ∀ i, i < 8 → bit i n = true → bit i p = bit i q
theorem D0 (a x y s p q m : Int) (h : Agr 9 p q) : Flg (dO 0) 195 ⟨a, x, y, s, p, m⟩ q := by
  have e1 : dO 0 ⟨a, x, y, s, p, m⟩ = ⟨((fAdc a m p).1), x, y, s, ((fAdc a m p).2), m⟩ := by kernel_rfl
  have e2 : dO 0 ⟨a, x, y, s, q, m⟩ = ⟨((fAdc a m q).1), x, y, s, ((fAdc a m q).2), m⟩ := by kernel_rfl
  unfold Flg; simp only [e1, e2]
  obtain ⟨c1, c2⟩ := two_adc.2 a m p q (h 0 (by omega) b0_9) (h 3 (by omega) b3_9)
  exact ⟨by rw [c1], c2, fun i hi hs => two_adc.1 a m p i hi hs⟩
theorem D1 (a x y s p q m : Int) (h : Agr 0 p q) : Flg (dO 1) 130 ⟨a, x, y, s, p, m⟩ q := by
  have e1 : dO 1 ⟨a, x, y, s, p, m⟩ = ⟨(bAnd .u8 a m), x, y, s, (fNz (bAnd .u8 a m) p), m⟩ := by kernel_rfl
  have e2 : dO 1 ⟨a, x, y, s, q, m⟩ = ⟨(bAnd .u8 a m), x, y, s, (fNz (bAnd .u8 a m) q), m⟩ := by kernel_rfl
  unfold Flg; simp only [e1, e2]
  refine ⟨by trivial, fun i hi hs => ?_, fun i hi hs => ?_⟩ <;> rcases i8 hi with rfl | rfl | rfl | rfl | rfl | rfl | rfl | rfl <;> simp only [b0_130, b1_130, b2_130, b3_130, b4_130, b5_130, b6_130, b7_130] at hs <;> first | (cases hs; done) | (simp only [nz0, nz1, nz2, nz3, nz4, nz5, nz6, nz7, pt0_1, pt1_1, pt2_1, pt3_1, pt4_1, pt5_1, pt6_1, pt7_1, pt0_2, pt1_2, pt2_2, pt3_2, pt4_2, pt5_2, pt6_2, pt7_2, pt0_4, pt1_4, pt2_4, pt3_4, pt4_4, pt5_4, pt6_4, pt7_4, pt0_8, pt1_8, pt2_8, pt3_8, pt4_8, pt5_8, pt6_8, pt7_8, pt0_64, pt1_64, pt2_64, pt3_64, pt4_64, pt5_64, pt6_64, pt7_64, pt0_128, pt1_128, pt2_128, pt3_128, pt4_128, pt5_128, pt6_128, pt7_128]; done) | trivial | rfl
theorem D2 (a x y s p q m : Int) (h : Agr 0 p q) : Flg (dO 2) 131 ⟨a, x, y, s, p, m⟩ q := by
  have e1 : dO 2 ⟨a, x, y, s, p, m⟩ = ⟨a, x, y, s, (fShP 2 m p), (fShR 2 m p)⟩ := by kernel_rfl
  have e2 : dO 2 ⟨a, x, y, s, q, m⟩ = ⟨a, x, y, s, (fShP 2 m q), (fShR 2 m q)⟩ := by kernel_rfl
  unfold Flg; simp only [e1, e2]
  simp only [fShR, fShP, Int.reduceEq, if_true, if_false]
  refine ⟨by trivial, fun i hi hs => ?_, fun i hi hs => ?_⟩ <;> rcases i8 hi with rfl | rfl | rfl | rfl | rfl | rfl | rfl | rfl <;> simp only [b0_131, b1_131, b2_131, b3_131, b4_131, b5_131, b6_131, b7_131] at hs <;> first | (cases hs; done) | (simp only [nz0, nz1, nz2, nz3, nz4, nz5, nz6, nz7, pt0_1, pt1_1, pt2_1, pt3_1, pt4_1, pt5_1, pt6_1, pt7_1, pt0_2, pt1_2, pt2_2, pt3_2, pt4_2, pt5_2, pt6_2, pt7_2, pt0_4, pt1_4, pt2_4, pt3_4, pt4_4, pt5_4, pt6_4, pt7_4, pt0_8, pt1_8, pt2_8, pt3_8, pt4_8, pt5_8, pt6_8, pt7_8, pt0_64, pt1_64, pt2_64, pt3_64, pt4_64, pt5_64, pt6_64, pt7_64, pt0_128, pt1_128, pt2_128, pt3_128, pt4_128, pt5_128, pt6_128, pt7_128]; done) | trivial | rfl
theorem D3 (a x y s p q m : Int) (h : Agr 1 p q) : Flg (dO 3) 0 ⟨a, x, y, s, p, m⟩ q := by
  have e1 : dO 3 ⟨a, x, y, s, p, m⟩ = ⟨a, x, y, s, p, m⟩ := by kernel_rfl
  have e2 : dO 3 ⟨a, x, y, s, q, m⟩ = ⟨a, x, y, s, q, m⟩ := by kernel_rfl
  unfold Flg; simp only [e1, e2]
  refine ⟨by trivial, fun i hi hs => ?_, fun i hi hs => ?_⟩ <;> rcases i8 hi with rfl | rfl | rfl | rfl | rfl | rfl | rfl | rfl <;> simp only [b0_0, b1_0, b2_0, b3_0, b4_0, b5_0, b6_0, b7_0] at hs <;> first | (cases hs; done) | (simp only [nz0, nz1, nz2, nz3, nz4, nz5, nz6, nz7, pt0_1, pt1_1, pt2_1, pt3_1, pt4_1, pt5_1, pt6_1, pt7_1, pt0_2, pt1_2, pt2_2, pt3_2, pt4_2, pt5_2, pt6_2, pt7_2, pt0_4, pt1_4, pt2_4, pt3_4, pt4_4, pt5_4, pt6_4, pt7_4, pt0_8, pt1_8, pt2_8, pt3_8, pt4_8, pt5_8, pt6_8, pt7_8, pt0_64, pt1_64, pt2_64, pt3_64, pt4_64, pt5_64, pt6_64, pt7_64, pt0_128, pt1_128, pt2_128, pt3_128, pt4_128, pt5_128, pt6_128, pt7_128]; done) | trivial | rfl
theorem D4 (a x y s p q m : Int) (h : Agr 1 p q) : Flg (dO 4) 0 ⟨a, x, y, s, p, m⟩ q := by
  have e1 : dO 4 ⟨a, x, y, s, p, m⟩ = ⟨a, x, y, s, p, m⟩ := by kernel_rfl
  have e2 : dO 4 ⟨a, x, y, s, q, m⟩ = ⟨a, x, y, s, q, m⟩ := by kernel_rfl
  unfold Flg; simp only [e1, e2]
  refine ⟨by trivial, fun i hi hs => ?_, fun i hi hs => ?_⟩ <;> rcases i8 hi with rfl | rfl | rfl | rfl | rfl | rfl | rfl | rfl <;> simp only [b0_0, b1_0, b2_0, b3_0, b4_0, b5_0, b6_0, b7_0] at hs <;> first | (cases hs; done) | (simp only [nz0, nz1, nz2, nz3, nz4, nz5, nz6, nz7, pt0_1, pt1_1, pt2_1, pt3_1, pt4_1, pt5_1, pt6_1, pt7_1, pt0_2, pt1_2, pt2_2, pt3_2, pt4_2, pt5_2, pt6_2, pt7_2, pt0_4, pt1_4, pt2_4, pt3_4, pt4_4, pt5_4, pt6_4, pt7_4, pt0_8, pt1_8, pt2_8, pt3_8, pt4_8, pt5_8, pt6_8, pt7_8, pt0_64, pt1_64, pt2_64, pt3_64, pt4_64, pt5_64, pt6_64, pt7_64, pt0_128, pt1_128, pt2_128, pt3_128, pt4_128, pt5_128, pt6_128, pt7_128]; done) | trivial | rfl
theorem D5 (a x y s p q m : Int) (h : Agr 2 p q) : Flg (dO 5) 0 ⟨a, x, y, s, p, m⟩ q := by
  have e1 : dO 5 ⟨a, x, y, s, p, m⟩ = ⟨a, x, y, s, p, m⟩ := by kernel_rfl
  have e2 : dO 5 ⟨a, x, y, s, q, m⟩ = ⟨a, x, y, s, q, m⟩ := by kernel_rfl
  unfold Flg; simp only [e1, e2]
  refine ⟨by trivial, fun i hi hs => ?_, fun i hi hs => ?_⟩ <;> rcases i8 hi with rfl | rfl | rfl | rfl | rfl | rfl | rfl | rfl <;> simp only [b0_0, b1_0, b2_0, b3_0, b4_0, b5_0, b6_0, b7_0] at hs <;> first | (cases hs; done) | (simp only [nz0, nz1, nz2, nz3, nz4, nz5, nz6, nz7, pt0_1, pt1_1, pt2_1, pt3_1, pt4_1, pt5_1, pt6_1, pt7_1, pt0_2, pt1_2, pt2_2, pt3_2, pt4_2, pt5_2, pt6_2, pt7_2, pt0_4, pt1_4, pt2_4, pt3_4, pt4_4, pt5_4, pt6_4, pt7_4, pt0_8, pt1_8, pt2_8, pt3_8, pt4_8, pt5_8, pt6_8, pt7_8, pt0_64, pt1_64, pt2_64, pt3_64, pt4_64, pt5_64, pt6_64, pt7_64, pt0_128, pt1_128, pt2_128, pt3_128, pt4_128, pt5_128, pt6_128, pt7_128]; done) | trivial | rfl
theorem D6 (a x y s p q m : Int) (h : Agr 0 p q) : Flg (dO 6) 194 ⟨a, x, y, s, p, m⟩ q := by
  have e1 : dO 6 ⟨a, x, y, s, p, m⟩ = ⟨a, x, y, s, (fPut (fPut (fPut p 2 (bAnd .u8 a m == 0)) 128 (bAnd .u8 m 128 != 0)) 64 (bAnd .u8 m 64 != 0)), m⟩ := by kernel_rfl
  have e2 : dO 6 ⟨a, x, y, s, q, m⟩ = ⟨a, x, y, s, (fPut (fPut (fPut q 2 (bAnd .u8 a m == 0)) 128 (bAnd .u8 m 128 != 0)) 64 (bAnd .u8 m 64 != 0)), m⟩ := by kernel_rfl
  unfold Flg; simp only [e1, e2]
  refine ⟨by trivial, fun i hi hs => ?_, fun i hi hs => ?_⟩ <;> rcases i8 hi with rfl | rfl | rfl | rfl | rfl | rfl | rfl | rfl <;> simp only [b0_194, b1_194, b2_194, b3_194, b4_194, b5_194, b6_194, b7_194] at hs <;> first | (cases hs; done) | (simp only [nz0, nz1, nz2, nz3, nz4, nz5, nz6, nz7, pt0_1, pt1_1, pt2_1, pt3_1, pt4_1, pt5_1, pt6_1, pt7_1, pt0_2, pt1_2, pt2_2, pt3_2, pt4_2, pt5_2, pt6_2, pt7_2, pt0_4, pt1_4, pt2_4, pt3_4, pt4_4, pt5_4, pt6_4, pt7_4, pt0_8, pt1_8, pt2_8, pt3_8, pt4_8, pt5_8, pt6_8, pt7_8, pt0_64, pt1_64, pt2_64, pt3_64, pt4_64, pt5_64, pt6_64, pt7_64, pt0_128, pt1_128, pt2_128, pt3_128, pt4_128, pt5_128, pt6_128, pt7_128]; done) | trivial | rfl
theorem D7 (a x y s p q m : Int) (h : Agr 128 p q) : Flg (dO 7) 0 ⟨a, x, y, s, p, m⟩ q := by
  have e1 : dO 7 ⟨a, x, y, s, p, m⟩ = ⟨a, x, y, s, p, m⟩ := by kernel_rfl
  have e2 : dO 7 ⟨a, x, y, s, q, m⟩ = ⟨a, x, y, s, q, m⟩ := by kernel_rfl
  unfold Flg; simp only [e1, e2]
  refine ⟨by trivial, fun i hi hs => ?_, fun i hi hs => ?_⟩ <;> rcases i8 hi with rfl | rfl | rfl | rfl | rfl | rfl | rfl | rfl <;> simp only [b0_0, b1_0, b2_0, b3_0, b4_0, b5_0, b6_0, b7_0] at hs <;> first | (cases hs; done) | (simp only [nz0, nz1, nz2, nz3, nz4, nz5, nz6, nz7, pt0_1, pt1_1, pt2_1, pt3_1, pt4_1, pt5_1, pt6_1, pt7_1, pt0_2, pt1_2, pt2_2, pt3_2, pt4_2, pt5_2, pt6_2, pt7_2, pt0_4, pt1_4, pt2_4, pt3_4, pt4_4, pt5_4, pt6_4, pt7_4, pt0_8, pt1_8, pt2_8, pt3_8, pt4_8, pt5_8, pt6_8, pt7_8, pt0_64, pt1_64, pt2_64, pt3_64, pt4_64, pt5_64, pt6_64, pt7_64, pt0_128, pt1_128, pt2_128, pt3_128, pt4_128, pt5_128, pt6_128, pt7_128]; done) | trivial | rfl
theorem D8 (a x y s p q m : Int) (h : Agr 2 p q) : Flg (dO 8) 0 ⟨a, x, y, s, p, m⟩ q := by
  have e1 : dO 8 ⟨a, x, y, s, p, m⟩ = ⟨a, x, y, s, p, m⟩ := by kernel_rfl
  have e2 : dO 8 ⟨a, x, y, s, q, m⟩ = ⟨a, x, y, s, q, m⟩ := by kernel_rfl
  unfold Flg; simp only [e1, e2]
  refine ⟨by trivial, fun i hi hs => ?_, fun i hi hs => ?_⟩ <;> rcases i8 hi with rfl | rfl | rfl | rfl | rfl | rfl | rfl | rfl <;> simp only [b0_0, b1_0, b2_0, b3_0, b4_0, b5_0, b6_0, b7_0] at hs <;> first | (cases hs; done) | (simp only [nz0, nz1, nz2, nz3, nz4, nz5, nz6, nz7, pt0_1, pt1_1, pt2_1, pt3_1, pt4_1, pt5_1, pt6_1, pt7_1, pt0_2, pt1_2, pt2_2, pt3_2, pt4_2, pt5_2, pt6_2, pt7_2, pt0_4, pt1_4, pt2_4, pt3_4, pt4_4, pt5_4, pt6_4, pt7_4, pt0_8, pt1_8, pt2_8, pt3_8, pt4_8, pt5_8, pt6_8, pt7_8, pt0_64, pt1_64, pt2_64, pt3_64, pt4_64, pt5_64, pt6_64, pt7_64, pt0_128, pt1_128, pt2_128, pt3_128, pt4_128, pt5_128, pt6_128, pt7_128]; done) | trivial | rfl
theorem D9 (a x y s p q m : Int) (h : Agr 128 p q) : Flg (dO 9) 0 ⟨a, x, y, s, p, m⟩ q := by
  have e1 : dO 9 ⟨a, x, y, s, p, m⟩ = ⟨a, x, y, s, p, m⟩ := by kernel_rfl
  have e2 : dO 9 ⟨a, x, y, s, q, m⟩ = ⟨a, x, y, s, q, m⟩ := by kernel_rfl
  unfold Flg; simp only [e1, e2]
  refine ⟨by trivial, fun i hi hs => ?_, fun i hi hs => ?_⟩ <;> rcases i8 hi with rfl | rfl | rfl | rfl | rfl | rfl | rfl | rfl <;> simp only [b0_0, b1_0, b2_0, b3_0, b4_0, b5_0, b6_0, b7_0] at hs <;> first | (cases hs; done) | (simp only [nz0, nz1, nz2, nz3, nz4, nz5, nz6, nz7, pt0_1, pt1_1, pt2_1, pt3_1, pt4_1, pt5_1, pt6_1, pt7_1, pt0_2, pt1_2, pt2_2, pt3_2, pt4_2, pt5_2, pt6_2, pt7_2, pt0_4, pt1_4, pt2_4, pt3_4, pt4_4, pt5_4, pt6_4, pt7_4, pt0_8, pt1_8, pt2_8, pt3_8, pt4_8, pt5_8, pt6_8, pt7_8, pt0_64, pt1_64, pt2_64, pt3_64, pt4_64, pt5_64, pt6_64, pt7_64, pt0_128, pt1_128, pt2_128, pt3_128, pt4_128, pt5_128, pt6_128, pt7_128]; done) | trivial | rfl
theorem D10 (a x y s p q m : Int) (h : Agr 207 p q) : Flg (dO 10) 4 ⟨a, x, y, s, p, m⟩ q := by
  have e1 : dO 10 ⟨a, x, y, s, p, m⟩ = ⟨a, x, y, s, (bOr .u8 p 4), (bOr .u8 (bOr .u8 p 16) 32)⟩ := by kernel_rfl
  have e2 : dO 10 ⟨a, x, y, s, q, m⟩ = ⟨a, x, y, s, (bOr .u8 q 4), (bOr .u8 (bOr .u8 q 16) 32)⟩ := by kernel_rfl
  unfold Flg; simp only [e1, e2]
  have hM : bOr .u8 (bOr .u8 q 16) 32 = bOr .u8 (bOr .u8 p 16) 32 := byte_ext (U8_or _ _) (U8_or _ _) fun i hi => by
    simp only [bit_or]
    have := h i hi
    rcases i8 hi with rfl | rfl | rfl | rfl | rfl | rfl | rfl | rfl <;> simp only [b0_207, b1_207, b2_207, b3_207, b4_207, b5_207, b6_207, b7_207] at this <;> simp only [b0_16, b1_16, b2_16, b3_16, b4_16, b5_16, b6_16, b7_16, b0_32, b1_32, b2_32, b3_32, b4_32, b5_32, b6_32, b7_32, Bool.or_true, Bool.or_false, Bool.true_or] <;> first | rfl | exact (this trivial).symm
  rw [hM]
  refine ⟨rfl, fun i hi hs => ?_, fun i hi hs => ?_⟩ <;> rcases i8 hi with rfl | rfl | rfl | rfl | rfl | rfl | rfl | rfl <;> simp only [b0_4, b1_4, b2_4, b3_4, b4_4, b5_4, b6_4, b7_4] at hs <;> first | (cases hs; done) | trivial | (simp only [bit_or, b0_4, b1_4, b2_4, b3_4, b4_4, b5_4, b6_4, b7_4, Bool.or_true, Bool.or_false])
theorem D11 (a x y s p q m : Int) (h : Agr 64 p q) : Flg (dO 11) 0 ⟨a, x, y, s, p, m⟩ q := by
  have e1 : dO 11 ⟨a, x, y, s, p, m⟩ = ⟨a, x, y, s, p, m⟩ := by kernel_rfl
  have e2 : dO 11 ⟨a, x, y, s, q, m⟩ = ⟨a, x, y, s, q, m⟩ := by kernel_rfl
  unfold Flg; simp only [e1, e2]
  refine ⟨by trivial, fun i hi hs => ?_, fun i hi hs => ?_⟩ <;> rcases i8 hi with rfl | rfl | rfl | rfl | rfl | rfl | rfl | rfl <;> simp only [b0_0, b1_0, b2_0, b3_0, b4_0, b5_0, b6_0, b7_0] at hs <;> first | (cases hs; done) | (simp only [nz0, nz1, nz2, nz3, nz4, nz5, nz6, nz7, pt0_1, pt1_1, pt2_1, pt3_1, pt4_1, pt5_1, pt6_1, pt7_1, pt0_2, pt1_2, pt2_2, pt3_2, pt4_2, pt5_2, pt6_2, pt7_2, pt0_4, pt1_4, pt2_4, pt3_4, pt4_4, pt5_4, pt6_4, pt7_4, pt0_8, pt1_8, pt2_8, pt3_8, pt4_8, pt5_8, pt6_8, pt7_8, pt0_64, pt1_64, pt2_64, pt3_64, pt4_64, pt5_64, pt6_64, pt7_64, pt0_128, pt1_128, pt2_128, pt3_128, pt4_128, pt5_128, pt6_128, pt7_128]; done) | trivial | rfl
theorem D12 (a x y s p q m : Int) (h : Agr 64 p q) : Flg (dO 12) 0 ⟨a, x, y, s, p, m⟩ q := by
  have e1 : dO 12 ⟨a, x, y, s, p, m⟩ = ⟨a, x, y, s, p, m⟩ := by kernel_rfl
  have e2 : dO 12 ⟨a, x, y, s, q, m⟩ = ⟨a, x, y, s, q, m⟩ := by kernel_rfl
  unfold Flg; simp only [e1, e2]
  refine ⟨by trivial, fun i hi hs => ?_, fun i hi hs => ?_⟩ <;> rcases i8 hi with rfl | rfl | rfl | rfl | rfl | rfl | rfl | rfl <;> simp only [b0_0, b1_0, b2_0, b3_0, b4_0, b5_0, b6_0, b7_0] at hs <;> first | (cases hs; done) | (simp only [nz0, nz1, nz2, nz3, nz4, nz5, nz6, nz7, pt0_1, pt1_1, pt2_1, pt3_1, pt4_1, pt5_1, pt6_1, pt7_1, pt0_2, pt1_2, pt2_2, pt3_2, pt4_2, pt5_2, pt6_2, pt7_2, pt0_4, pt1_4, pt2_4, pt3_4, pt4_4, pt5_4, pt6_4, pt7_4, pt0_8, pt1_8, pt2_8, pt3_8, pt4_8, pt5_8, pt6_8, pt7_8, pt0_64, pt1_64, pt2_64, pt3_64, pt4_64, pt5_64, pt6_64, pt7_64, pt0_128, pt1_128, pt2_128, pt3_128, pt4_128, pt5_128, pt6_128, pt7_128]; done) | trivial | rfl
theorem D13 (a x y s p q m : Int) (h : Agr 0 p q) : Flg (dO 13) 1 ⟨a, x, y, s, p, m⟩ q := by
  have e1 : dO 13 ⟨a, x, y, s, p, m⟩ = ⟨a, x, y, s, (fPut p 1 false), m⟩ := by kernel_rfl
  have e2 : dO 13 ⟨a, x, y, s, q, m⟩ = ⟨a, x, y, s, (fPut q 1 false), m⟩ := by kernel_rfl
  unfold Flg; simp only [e1, e2]
  refine ⟨by trivial, fun i hi hs => ?_, fun i hi hs => ?_⟩ <;> rcases i8 hi with rfl | rfl | rfl | rfl | rfl | rfl | rfl | rfl <;> simp only [b0_1, b1_1, b2_1, b3_1, b4_1, b5_1, b6_1, b7_1] at hs <;> first | (cases hs; done) | (simp only [nz0, nz1, nz2, nz3, nz4, nz5, nz6, nz7, pt0_1, pt1_1, pt2_1, pt3_1, pt4_1, pt5_1, pt6_1, pt7_1, pt0_2, pt1_2, pt2_2, pt3_2, pt4_2, pt5_2, pt6_2, pt7_2, pt0_4, pt1_4, pt2_4, pt3_4, pt4_4, pt5_4, pt6_4, pt7_4, pt0_8, pt1_8, pt2_8, pt3_8, pt4_8, pt5_8, pt6_8, pt7_8, pt0_64, pt1_64, pt2_64, pt3_64, pt4_64, pt5_64, pt6_64, pt7_64, pt0_128, pt1_128, pt2_128, pt3_128, pt4_128, pt5_128, pt6_128, pt7_128]; done) | trivial | rfl
theorem D14 (a x y s p q m : Int) (h : Agr 0 p q) : Flg (dO 14) 8 ⟨a, x, y, s, p, m⟩ q := by
  have e1 : dO 14 ⟨a, x, y, s, p, m⟩ = ⟨a, x, y, s, (fPut p 8 false), m⟩ := by kernel_rfl
  have e2 : dO 14 ⟨a, x, y, s, q, m⟩ = ⟨a, x, y, s, (fPut q 8 false), m⟩ := by kernel_rfl
  unfold Flg; simp only [e1, e2]
  refine ⟨by trivial, fun i hi hs => ?_, fun i hi hs => ?_⟩ <;> rcases i8 hi with rfl | rfl | rfl | rfl | rfl | rfl | rfl | rfl <;> simp only [b0_8, b1_8, b2_8, b3_8, b4_8, b5_8, b6_8, b7_8] at hs <;> first | (cases hs; done) | (simp only [nz0, nz1, nz2, nz3, nz4, nz5, nz6, nz7, pt0_1, pt1_1, pt2_1, pt3_1, pt4_1, pt5_1, pt6_1, pt7_1, pt0_2, pt1_2, pt2_2, pt3_2, pt4_2, pt5_2, pt6_2, pt7_2, pt0_4, pt1_4, pt2_4, pt3_4, pt4_4, pt5_4, pt6_4, pt7_4, pt0_8, pt1_8, pt2_8, pt3_8, pt4_8, pt5_8, pt6_8, pt7_8, pt0_64, pt1_64, pt2_64, pt3_64, pt4_64, pt5_64, pt6_64, pt7_64, pt0_128, pt1_128, pt2_128, pt3_128, pt4_128, pt5_128, pt6_128, pt7_128]; done) | trivial | rfl
theorem D15 (a x y s p q m : Int) (h : Agr 0 p q) : Flg (dO 15) 4 ⟨a, x, y, s, p, m⟩ q := by
  have e1 : dO 15 ⟨a, x, y, s, p, m⟩ = ⟨a, x, y, s, (fPut p 4 false), m⟩ := by kernel_rfl
  have e2 : dO 15 ⟨a, x, y, s, q, m⟩ = ⟨a, x, y, s, (fPut q 4 false), m⟩ := by kernel_rfl
  unfold Flg; simp only [e1, e2]
  refine ⟨by trivial, fun i hi hs => ?_, fun i hi hs => ?_⟩ <;> rcases i8 hi with rfl | rfl | rfl | rfl | rfl | rfl | rfl | rfl <;> simp only [b0_4, b1_4, b2_4, b3_4, b4_4, b5_4, b6_4, b7_4] at hs <;> first | (cases hs; done) | (simp only [nz0, nz1, nz2, nz3, nz4, nz5, nz6, nz7, pt0_1, pt1_1, pt2_1, pt3_1, pt4_1, pt5_1, pt6_1, pt7_1, pt0_2, pt1_2, pt2_2, pt3_2, pt4_2, pt5_2, pt6_2, pt7_2, pt0_4, pt1_4, pt2_4, pt3_4, pt4_4, pt5_4, pt6_4, pt7_4, pt0_8, pt1_8, pt2_8, pt3_8, pt4_8, pt5_8, pt6_8, pt7_8, pt0_64, pt1_64, pt2_64, pt3_64, pt4_64, pt5_64, pt6_64, pt7_64, pt0_128, pt1_128, pt2_128, pt3_128, pt4_128, pt5_128, pt6_128, pt7_128]; done) | trivial | rfl
theorem D16 (a x y s p q m : Int) (h : Agr 0 p q) : Flg (dO 16) 64 ⟨a, x, y, s, p, m⟩ q := by
  have e1 : dO 16 ⟨a, x, y, s, p, m⟩ = ⟨a, x, y, s, (fPut p 64 false), m⟩ := by kernel_rfl
  have e2 : dO 16 ⟨a, x, y, s, q, m⟩ = ⟨a, x, y, s, (fPut q 64 false), m⟩ := by kernel_rfl
  unfold Flg; simp only [e1, e2]
  refine ⟨by trivial, fun i hi hs => ?_, fun i hi hs => ?_⟩ <;> rcases i8 hi with rfl | rfl | rfl | rfl | rfl | rfl | rfl | rfl <;> simp only [b0_64, b1_64, b2_64, b3_64, b4_64, b5_64, b6_64, b7_64] at hs <;> first | (cases hs; done) | (simp only [nz0, nz1, nz2, nz3, nz4, nz5, nz6, nz7, pt0_1, pt1_1, pt2_1, pt3_1, pt4_1, pt5_1, pt6_1, pt7_1, pt0_2, pt1_2, pt2_2, pt3_2, pt4_2, pt5_2, pt6_2, pt7_2, pt0_4, pt1_4, pt2_4, pt3_4, pt4_4, pt5_4, pt6_4, pt7_4, pt0_8, pt1_8, pt2_8, pt3_8, pt4_8, pt5_8, pt6_8, pt7_8, pt0_64, pt1_64, pt2_64, pt3_64, pt4_64, pt5_64, pt6_64, pt7_64, pt0_128, pt1_128, pt2_128, pt3_128, pt4_128, pt5_128, pt6_128, pt7_128]; done) | trivial | rfl
theorem D17 (a x y s p q m : Int) (h : Agr 0 p q) : Flg (dO 17) 131 ⟨a, x, y, s, p, m⟩ q := by
  have e1 : dO 17 ⟨a, x, y, s, p, m⟩ = ⟨a, x, y, s, (fCmp a m p), m⟩ := by kernel_rfl
  have e2 : dO 17 ⟨a, x, y, s, q, m⟩ = ⟨a, x, y, s, (fCmp a m q), m⟩ := by kernel_rfl
  unfold Flg; simp only [e1, e2]
  simp only [fCmp, Int.reduceEq, if_true, if_false]
  refine ⟨by trivial, fun i hi hs => ?_, fun i hi hs => ?_⟩ <;> rcases i8 hi with rfl | rfl | rfl | rfl | rfl | rfl | rfl | rfl <;> simp only [b0_131, b1_131, b2_131, b3_131, b4_131, b5_131, b6_131, b7_131] at hs <;> first | (cases hs; done) | (simp only [nz0, nz1, nz2, nz3, nz4, nz5, nz6, nz7, pt0_1, pt1_1, pt2_1, pt3_1, pt4_1, pt5_1, pt6_1, pt7_1, pt0_2, pt1_2, pt2_2, pt3_2, pt4_2, pt5_2, pt6_2, pt7_2, pt0_4, pt1_4, pt2_4, pt3_4, pt4_4, pt5_4, pt6_4, pt7_4, pt0_8, pt1_8, pt2_8, pt3_8, pt4_8, pt5_8, pt6_8, pt7_8, pt0_64, pt1_64, pt2_64, pt3_64, pt4_64, pt5_64, pt6_64, pt7_64, pt0_128, pt1_128, pt2_128, pt3_128, pt4_128, pt5_128, pt6_128, pt7_128]; done) | trivial | rfl
theorem D18 (a x y s p q m : Int) (h : Agr 0 p q) : Flg (dO 18) 131 ⟨a, x, y, s, p, m⟩ q := by
  have e1 : dO 18 ⟨a, x, y, s, p, m⟩ = ⟨a, x, y, s, (fCmp x m p), m⟩ := by kernel_rfl
  have e2 : dO 18 ⟨a, x, y, s, q, m⟩ = ⟨a, x, y, s, (fCmp x m q), m⟩ := by kernel_rfl
  unfold Flg; simp only [e1, e2]
  simp only [fCmp, Int.reduceEq, if_true, if_false]
  refine ⟨by trivial, fun i hi hs => ?_, fun i hi hs => ?_⟩ <;> rcases i8 hi with rfl | rfl | rfl | rfl | rfl | rfl | rfl | rfl <;> simp only [b0_131, b1_131, b2_131, b3_131, b4_131, b5_131, b6_131, b7_131] at hs <;> first | (cases hs; done) | (simp only [nz0, nz1, nz2, nz3, nz4, nz5, nz6, nz7, pt0_1, pt1_1, pt2_1, pt3_1, pt4_1, pt5_1, pt6_1, pt7_1, pt0_2, pt1_2, pt2_2, pt3_2, pt4_2, pt5_2, pt6_2, pt7_2, pt0_4, pt1_4, pt2_4, pt3_4, pt4_4, pt5_4, pt6_4, pt7_4, pt0_8, pt1_8, pt2_8, pt3_8, pt4_8, pt5_8, pt6_8, pt7_8, pt0_64, pt1_64, pt2_64, pt3_64, pt4_64, pt5_64, pt6_64, pt7_64, pt0_128, pt1_128, pt2_128, pt3_128, pt4_128, pt5_128, pt6_128, pt7_128]; done) | trivial | rfl
theorem D19 (a x y s p q m : Int) (h : Agr 0 p q) : Flg (dO 19) 131 ⟨a, x, y, s, p, m⟩ q := by
  have e1 : dO 19 ⟨a, x, y, s, p, m⟩ = ⟨a, x, y, s, (fCmp y m p), m⟩ := by kernel_rfl
  have e2 : dO 19 ⟨a, x, y, s, q, m⟩ = ⟨a, x, y, s, (fCmp y m q), m⟩ := by kernel_rfl
  unfold Flg; simp only [e1, e2]
  simp only [fCmp, Int.reduceEq, if_true, if_false]
  refine ⟨by trivial, fun i hi hs => ?_, fun i hi hs => ?_⟩ <;> rcases i8 hi with rfl | rfl | rfl | rfl | rfl | rfl | rfl | rfl <;> simp only [b0_131, b1_131, b2_131, b3_131, b4_131, b5_131, b6_131, b7_131] at hs <;> first | (cases hs; done) | (simp only [nz0, nz1, nz2, nz3, nz4, nz5, nz6, nz7, pt0_1, pt1_1, pt2_1, pt3_1, pt4_1, pt5_1, pt6_1, pt7_1, pt0_2, pt1_2, pt2_2, pt3_2, pt4_2, pt5_2, pt6_2, pt7_2, pt0_4, pt1_4, pt2_4, pt3_4, pt4_4, pt5_4, pt6_4, pt7_4, pt0_8, pt1_8, pt2_8, pt3_8, pt4_8, pt5_8, pt6_8, pt7_8, pt0_64, pt1_64, pt2_64, pt3_64, pt4_64, pt5_64, pt6_64, pt7_64, pt0_128, pt1_128, pt2_128, pt3_128, pt4_128, pt5_128, pt6_128, pt7_128]; done) | trivial | rfl
theorem D20 (a x y s p q m : Int) (h : Agr 0 p q) : Flg (dO 20) 130 ⟨a, x, y, s, p, m⟩ q := by
  have e1 : dO 20 ⟨a, x, y, s, p, m⟩ = ⟨a, x, y, s, (fNz (IntKind.u8.wrap (m + 255)) p), (IntKind.u8.wrap (m + 255))⟩ := by kernel_rfl
  have e2 : dO 20 ⟨a, x, y, s, q, m⟩ = ⟨a, x, y, s, (fNz (IntKind.u8.wrap (m + 255)) q), (IntKind.u8.wrap (m + 255))⟩ := by kernel_rfl
  unfold Flg; simp only [e1, e2]
  refine ⟨by trivial, fun i hi hs => ?_, fun i hi hs => ?_⟩ <;> rcases i8 hi with rfl | rfl | rfl | rfl | rfl | rfl | rfl | rfl <;> simp only [b0_130, b1_130, b2_130, b3_130, b4_130, b5_130, b6_130, b7_130] at hs <;> first | (cases hs; done) | (simp only [nz0, nz1, nz2, nz3, nz4, nz5, nz6, nz7, pt0_1, pt1_1, pt2_1, pt3_1, pt4_1, pt5_1, pt6_1, pt7_1, pt0_2, pt1_2, pt2_2, pt3_2, pt4_2, pt5_2, pt6_2, pt7_2, pt0_4, pt1_4, pt2_4, pt3_4, pt4_4, pt5_4, pt6_4, pt7_4, pt0_8, pt1_8, pt2_8, pt3_8, pt4_8, pt5_8, pt6_8, pt7_8, pt0_64, pt1_64, pt2_64, pt3_64, pt4_64, pt5_64, pt6_64, pt7_64, pt0_128, pt1_128, pt2_128, pt3_128, pt4_128, pt5_128, pt6_128, pt7_128]; done) | trivial | rfl
theorem D21 (a x y s p q m : Int) (h : Agr 0 p q) : Flg (dO 21) 130 ⟨a, x, y, s, p, m⟩ q := by
  have e1 : dO 21 ⟨a, x, y, s, p, m⟩ = ⟨a, (IntKind.u8.wrap (x + 255)), y, s, (fNz (IntKind.u8.wrap (x + 255)) p), m⟩ := by kernel_rfl
  have e2 : dO 21 ⟨a, x, y, s, q, m⟩ = ⟨a, (IntKind.u8.wrap (x + 255)), y, s, (fNz (IntKind.u8.wrap (x + 255)) q), m⟩ := by kernel_rfl
  unfold Flg; simp only [e1, e2]
  refine ⟨by trivial, fun i hi hs => ?_, fun i hi hs => ?_⟩ <;> rcases i8 hi with rfl | rfl | rfl | rfl | rfl | rfl | rfl | rfl <;> simp only [b0_130, b1_130, b2_130, b3_130, b4_130, b5_130, b6_130, b7_130] at hs <;> first | (cases hs; done) | (simp only [nz0, nz1, nz2, nz3, nz4, nz5, nz6, nz7, pt0_1, pt1_1, pt2_1, pt3_1, pt4_1, pt5_1, pt6_1, pt7_1, pt0_2, pt1_2, pt2_2, pt3_2, pt4_2, pt5_2, pt6_2, pt7_2, pt0_4, pt1_4, pt2_4, pt3_4, pt4_4, pt5_4, pt6_4, pt7_4, pt0_8, pt1_8, pt2_8, pt3_8, pt4_8, pt5_8, pt6_8, pt7_8, pt0_64, pt1_64, pt2_64, pt3_64, pt4_64, pt5_64, pt6_64, pt7_64, pt0_128, pt1_128, pt2_128, pt3_128, pt4_128, pt5_128, pt6_128, pt7_128]; done) | trivial | rfl
theorem D22 (a x y s p q m : Int) (h : Agr 0 p q) : Flg (dO 22) 130 ⟨a, x, y, s, p, m⟩ q := by
  have e1 : dO 22 ⟨a, x, y, s, p, m⟩ = ⟨a, x, (IntKind.u8.wrap (y + 255)), s, (fNz (IntKind.u8.wrap (y + 255)) p), m⟩ := by kernel_rfl
  have e2 : dO 22 ⟨a, x, y, s, q, m⟩ = ⟨a, x, (IntKind.u8.wrap (y + 255)), s, (fNz (IntKind.u8.wrap (y + 255)) q), m⟩ := by kernel_rfl
  unfold Flg; simp only [e1, e2]
  refine ⟨by trivial, fun i hi hs => ?_, fun i hi hs => ?_⟩ <;> rcases i8 hi with rfl | rfl | rfl | rfl | rfl | rfl | rfl | rfl <;> simp only [b0_130, b1_130, b2_130, b3_130, b4_130, b5_130, b6_130, b7_130] at hs <;> first | (cases hs; done) | (simp only [nz0, nz1, nz2, nz3, nz4, nz5, nz6, nz7, pt0_1, pt1_1, pt2_1, pt3_1, pt4_1, pt5_1, pt6_1, pt7_1, pt0_2, pt1_2, pt2_2, pt3_2, pt4_2, pt5_2, pt6_2, pt7_2, pt0_4, pt1_4, pt2_4, pt3_4, pt4_4, pt5_4, pt6_4, pt7_4, pt0_8, pt1_8, pt2_8, pt3_8, pt4_8, pt5_8, pt6_8, pt7_8, pt0_64, pt1_64, pt2_64, pt3_64, pt4_64, pt5_64, pt6_64, pt7_64, pt0_128, pt1_128, pt2_128, pt3_128, pt4_128, pt5_128, pt6_128, pt7_128]; done) | trivial | rfl
theorem D23 (a x y s p q m : Int) (h : Agr 0 p q) : Flg (dO 23) 130 ⟨a, x, y, s, p, m⟩ q := by
  have e1 : dO 23 ⟨a, x, y, s, p, m⟩ = ⟨(bXor .u8 a m), x, y, s, (fNz (bXor .u8 a m) p), m⟩ := by kernel_rfl
  have e2 : dO 23 ⟨a, x, y, s, q, m⟩ = ⟨(bXor .u8 a m), x, y, s, (fNz (bXor .u8 a m) q), m⟩ := by kernel_rfl
  unfold Flg; simp only [e1, e2]
  refine ⟨by trivial, fun i hi hs => ?_, fun i hi hs => ?_⟩ <;> rcases i8 hi with rfl | rfl | rfl | rfl | rfl | rfl | rfl | rfl <;> simp only [b0_130, b1_130, b2_130, b3_130, b4_130, b5_130, b6_130, b7_130] at hs <;> first | (cases hs; done) | (simp only [nz0, nz1, nz2, nz3, nz4, nz5, nz6, nz7, pt0_1, pt1_1, pt2_1, pt3_1, pt4_1, pt5_1, pt6_1, pt7_1, pt0_2, pt1_2, pt2_2, pt3_2, pt4_2, pt5_2, pt6_2, pt7_2, pt0_4, pt1_4, pt2_4, pt3_4, pt4_4, pt5_4, pt6_4, pt7_4, pt0_8, pt1_8, pt2_8, pt3_8, pt4_8, pt5_8, pt6_8, pt7_8, pt0_64, pt1_64, pt2_64, pt3_64, pt4_64, pt5_64, pt6_64, pt7_64, pt0_128, pt1_128, pt2_128, pt3_128, pt4_128, pt5_128, pt6_128, pt7_128]; done) | trivial | rfl
theorem D24 (a x y s p q m : Int) (h : Agr 0 p q) : Flg (dO 24) 130 ⟨a, x, y, s, p, m⟩ q := by
  have e1 : dO 24 ⟨a, x, y, s, p, m⟩ = ⟨a, x, y, s, (fNz (IntKind.u8.wrap (m + 1)) p), (IntKind.u8.wrap (m + 1))⟩ := by kernel_rfl
  have e2 : dO 24 ⟨a, x, y, s, q, m⟩ = ⟨a, x, y, s, (fNz (IntKind.u8.wrap (m + 1)) q), (IntKind.u8.wrap (m + 1))⟩ := by kernel_rfl
  unfold Flg; simp only [e1, e2]
  refine ⟨by trivial, fun i hi hs => ?_, fun i hi hs => ?_⟩ <;> rcases i8 hi with rfl | rfl | rfl | rfl | rfl | rfl | rfl | rfl <;> simp only [b0_130, b1_130, b2_130, b3_130, b4_130, b5_130, b6_130, b7_130] at hs <;> first | (cases hs; done) | (simp only [nz0, nz1, nz2, nz3, nz4, nz5, nz6, nz7, pt0_1, pt1_1, pt2_1, pt3_1, pt4_1, pt5_1, pt6_1, pt7_1, pt0_2, pt1_2, pt2_2, pt3_2, pt4_2, pt5_2, pt6_2, pt7_2, pt0_4, pt1_4, pt2_4, pt3_4, pt4_4, pt5_4, pt6_4, pt7_4, pt0_8, pt1_8, pt2_8, pt3_8, pt4_8, pt5_8, pt6_8, pt7_8, pt0_64, pt1_64, pt2_64, pt3_64, pt4_64, pt5_64, pt6_64, pt7_64, pt0_128, pt1_128, pt2_128, pt3_128, pt4_128, pt5_128, pt6_128, pt7_128]; done) | trivial | rfl
theorem D25 (a x y s p q m : Int) (h : Agr 0 p q) : Flg (dO 25) 130 ⟨a, x, y, s, p, m⟩ q := by
  have e1 : dO 25 ⟨a, x, y, s, p, m⟩ = ⟨a, (IntKind.u8.wrap (x + 1)), y, s, (fNz (IntKind.u8.wrap (x + 1)) p), m⟩ := by kernel_rfl
  have e2 : dO 25 ⟨a, x, y, s, q, m⟩ = ⟨a, (IntKind.u8.wrap (x + 1)), y, s, (fNz (IntKind.u8.wrap (x + 1)) q), m⟩ := by kernel_rfl
  unfold Flg; simp only [e1, e2]
  refine ⟨by trivial, fun i hi hs => ?_, fun i hi hs => ?_⟩ <;> rcases i8 hi with rfl | rfl | rfl | rfl | rfl | rfl | rfl | rfl <;> simp only [b0_130, b1_130, b2_130, b3_130, b4_130, b5_130, b6_130, b7_130] at hs <;> first | (cases hs; done) | (simp only [nz0, nz1, nz2, nz3, nz4, nz5, nz6, nz7, pt0_1, pt1_1, pt2_1, pt3_1, pt4_1, pt5_1, pt6_1, pt7_1, pt0_2, pt1_2, pt2_2, pt3_2, pt4_2, pt5_2, pt6_2, pt7_2, pt0_4, pt1_4, pt2_4, pt3_4, pt4_4, pt5_4, pt6_4, pt7_4, pt0_8, pt1_8, pt2_8, pt3_8, pt4_8, pt5_8, pt6_8, pt7_8, pt0_64, pt1_64, pt2_64, pt3_64, pt4_64, pt5_64, pt6_64, pt7_64, pt0_128, pt1_128, pt2_128, pt3_128, pt4_128, pt5_128, pt6_128, pt7_128]; done) | trivial | rfl
theorem D26 (a x y s p q m : Int) (h : Agr 0 p q) : Flg (dO 26) 130 ⟨a, x, y, s, p, m⟩ q := by
  have e1 : dO 26 ⟨a, x, y, s, p, m⟩ = ⟨a, x, (IntKind.u8.wrap (y + 1)), s, (fNz (IntKind.u8.wrap (y + 1)) p), m⟩ := by kernel_rfl
  have e2 : dO 26 ⟨a, x, y, s, q, m⟩ = ⟨a, x, (IntKind.u8.wrap (y + 1)), s, (fNz (IntKind.u8.wrap (y + 1)) q), m⟩ := by kernel_rfl
  unfold Flg; simp only [e1, e2]
  refine ⟨by trivial, fun i hi hs => ?_, fun i hi hs => ?_⟩ <;> rcases i8 hi with rfl | rfl | rfl | rfl | rfl | rfl | rfl | rfl <;> simp only [b0_130, b1_130, b2_130, b3_130, b4_130, b5_130, b6_130, b7_130] at hs <;> first | (cases hs; done) | (simp only [nz0, nz1, nz2, nz3, nz4, nz5, nz6, nz7, pt0_1, pt1_1, pt2_1, pt3_1, pt4_1, pt5_1, pt6_1, pt7_1, pt0_2, pt1_2, pt2_2, pt3_2, pt4_2, pt5_2, pt6_2, pt7_2, pt0_4, pt1_4, pt2_4, pt3_4, pt4_4, pt5_4, pt6_4, pt7_4, pt0_8, pt1_8, pt2_8, pt3_8, pt4_8, pt5_8, pt6_8, pt7_8, pt0_64, pt1_64, pt2_64, pt3_64, pt4_64, pt5_64, pt6_64, pt7_64, pt0_128, pt1_128, pt2_128, pt3_128, pt4_128, pt5_128, pt6_128, pt7_128]; done) | trivial | rfl
theorem D27 (a x y s p q m : Int) (h : Agr 0 p q) : Flg (dO 27) 0 ⟨a, x, y, s, p, m⟩ q := by
  have e1 : dO 27 ⟨a, x, y, s, p, m⟩ = ⟨a, x, y, s, p, m⟩ := by kernel_rfl
  have e2 : dO 27 ⟨a, x, y, s, q, m⟩ = ⟨a, x, y, s, q, m⟩ := by kernel_rfl
  unfold Flg; simp only [e1, e2]
  refine ⟨by trivial, fun i hi hs => ?_, fun i hi hs => ?_⟩ <;> rcases i8 hi with rfl | rfl | rfl | rfl | rfl | rfl | rfl | rfl <;> simp only [b0_0, b1_0, b2_0, b3_0, b4_0, b5_0, b6_0, b7_0] at hs <;> first | (cases hs; done) | (simp only [nz0, nz1, nz2, nz3, nz4, nz5, nz6, nz7, pt0_1, pt1_1, pt2_1, pt3_1, pt4_1, pt5_1, pt6_1, pt7_1, pt0_2, pt1_2, pt2_2, pt3_2, pt4_2, pt5_2, pt6_2, pt7_2, pt0_4, pt1_4, pt2_4, pt3_4, pt4_4, pt5_4, pt6_4, pt7_4, pt0_8, pt1_8, pt2_8, pt3_8, pt4_8, pt5_8, pt6_8, pt7_8, pt0_64, pt1_64, pt2_64, pt3_64, pt4_64, pt5_64, pt6_64, pt7_64, pt0_128, pt1_128, pt2_128, pt3_128, pt4_128, pt5_128, pt6_128, pt7_128]; done) | trivial | rfl
theorem D28 (a x y s p q m : Int) (h : Agr 0 p q) : Flg (dO 28) 0 ⟨a, x, y, s, p, m⟩ q := by
  have e1 : dO 28 ⟨a, x, y, s, p, m⟩ = ⟨a, x, y, s, p, m⟩ := by kernel_rfl
  have e2 : dO 28 ⟨a, x, y, s, q, m⟩ = ⟨a, x, y, s, q, m⟩ := by kernel_rfl
  unfold Flg; simp only [e1, e2]
  refine ⟨by trivial, fun i hi hs => ?_, fun i hi hs => ?_⟩ <;> rcases i8 hi with rfl | rfl | rfl | rfl | rfl | rfl | rfl | rfl <;> simp only [b0_0, b1_0, b2_0, b3_0, b4_0, b5_0, b6_0, b7_0] at hs <;> first | (cases hs; done) | (simp only [nz0, nz1, nz2, nz3, nz4, nz5, nz6, nz7, pt0_1, pt1_1, pt2_1, pt3_1, pt4_1, pt5_1, pt6_1, pt7_1, pt0_2, pt1_2, pt2_2, pt3_2, pt4_2, pt5_2, pt6_2, pt7_2, pt0_4, pt1_4, pt2_4, pt3_4, pt4_4, pt5_4, pt6_4, pt7_4, pt0_8, pt1_8, pt2_8, pt3_8, pt4_8, pt5_8, pt6_8, pt7_8, pt0_64, pt1_64, pt2_64, pt3_64, pt4_64, pt5_64, pt6_64, pt7_64, pt0_128, pt1_128, pt2_128, pt3_128, pt4_128, pt5_128, pt6_128, pt7_128]; done) | trivial | rfl
theorem D29 (a x y s p q m : Int) (h : Agr 0 p q) : Flg (dO 29) 130 ⟨a, x, y, s, p, m⟩ q := by
  have e1 : dO 29 ⟨a, x, y, s, p, m⟩ = ⟨(m), x, y, s, (fNz m p), m⟩ := by kernel_rfl
  have e2 : dO 29 ⟨a, x, y, s, q, m⟩ = ⟨(m), x, y, s, (fNz m q), m⟩ := by kernel_rfl
  unfold Flg; simp only [e1, e2]
  refine ⟨by trivial, fun i hi hs => ?_, fun i hi hs => ?_⟩ <;> rcases i8 hi with rfl | rfl | rfl | rfl | rfl | rfl | rfl | rfl <;> simp only [b0_130, b1_130, b2_130, b3_130, b4_130, b5_130, b6_130, b7_130] at hs <;> first | (cases hs; done) | (simp only [nz0, nz1, nz2, nz3, nz4, nz5, nz6, nz7, pt0_1, pt1_1, pt2_1, pt3_1, pt4_1, pt5_1, pt6_1, pt7_1, pt0_2, pt1_2, pt2_2, pt3_2, pt4_2, pt5_2, pt6_2, pt7_2, pt0_4, pt1_4, pt2_4, pt3_4, pt4_4, pt5_4, pt6_4, pt7_4, pt0_8, pt1_8, pt2_8, pt3_8, pt4_8, pt5_8, pt6_8, pt7_8, pt0_64, pt1_64, pt2_64, pt3_64, pt4_64, pt5_64, pt6_64, pt7_64, pt0_128, pt1_128, pt2_128, pt3_128, pt4_128, pt5_128, pt6_128, pt7_128]; done) | trivial | rfl
theorem D30 (a x y s p q m : Int) (h : Agr 0 p q) : Flg (dO 30) 130 ⟨a, x, y, s, p, m⟩ q := by
  have e1 : dO 30 ⟨a, x, y, s, p, m⟩ = ⟨a, (m), y, s, (fNz m p), m⟩ := by kernel_rfl
  have e2 : dO 30 ⟨a, x, y, s, q, m⟩ = ⟨a, (m), y, s, (fNz m q), m⟩ := by kernel_rfl
  unfold Flg; simp only [e1, e2]
  refine ⟨by trivial, fun i hi hs => ?_, fun i hi hs => ?_⟩ <;> rcases i8 hi with rfl | rfl | rfl | rfl | rfl | rfl | rfl | rfl <;> simp only [b0_130, b1_130, b2_130, b3_130, b4_130, b5_130, b6_130, b7_130] at hs <;> first | (cases hs; done) | (simp only [nz0, nz1, nz2, nz3, nz4, nz5, nz6, nz7, pt0_1, pt1_1, pt2_1, pt3_1, pt4_1, pt5_1, pt6_1, pt7_1, pt0_2, pt1_2, pt2_2, pt3_2, pt4_2, pt5_2, pt6_2, pt7_2, pt0_4, pt1_4, pt2_4, pt3_4, pt4_4, pt5_4, pt6_4, pt7_4, pt0_8, pt1_8, pt2_8, pt3_8, pt4_8, pt5_8, pt6_8, pt7_8, pt0_64, pt1_64, pt2_64, pt3_64, pt4_64, pt5_64, pt6_64, pt7_64, pt0_128, pt1_128, pt2_128, pt3_128, pt4_128, pt5_128, pt6_128, pt7_128]; done) | trivial | rfl
theorem D31 (a x y s p q m : Int) (h : Agr 0 p q) : Flg (dO 31) 130 ⟨a, x, y, s, p, m⟩ q := by
  have e1 : dO 31 ⟨a, x, y, s, p, m⟩ = ⟨a, x, (m), s, (fNz m p), m⟩ := by kernel_rfl
  have e2 : dO 31 ⟨a, x, y, s, q, m⟩ = ⟨a, x, (m), s, (fNz m q), m⟩ := by kernel_rfl
  unfold Flg; simp only [e1, e2]
  refine ⟨by trivial, fun i hi hs => ?_, fun i hi hs => ?_⟩ <;> rcases i8 hi with rfl | rfl | rfl | rfl | rfl | rfl | rfl | rfl <;> simp only [b0_130, b1_130, b2_130, b3_130, b4_130, b5_130, b6_130, b7_130] at hs <;> first | (cases hs; done) | (simp only [nz0, nz1, nz2, nz3, nz4, nz5, nz6, nz7, pt0_1, pt1_1, pt2_1, pt3_1, pt4_1, pt5_1, pt6_1, pt7_1, pt0_2, pt1_2, pt2_2, pt3_2, pt4_2, pt5_2, pt6_2, pt7_2, pt0_4, pt1_4, pt2_4, pt3_4, pt4_4, pt5_4, pt6_4, pt7_4, pt0_8, pt1_8, pt2_8, pt3_8, pt4_8, pt5_8, pt6_8, pt7_8, pt0_64, pt1_64, pt2_64, pt3_64, pt4_64, pt5_64, pt6_64, pt7_64, pt0_128, pt1_128, pt2_128, pt3_128, pt4_128, pt5_128, pt6_128, pt7_128]; done) | trivial | rfl
theorem D32 (a x y s p q m : Int) (h : Agr 0 p q) : Flg (dO 32) 131 ⟨a, x, y, s, p, m⟩ q := by
  have e1 : dO 32 ⟨a, x, y, s, p, m⟩ = ⟨a, x, y, s, (fShP 32 m p), (fShR 32 m p)⟩ := by kernel_rfl
  have e2 : dO 32 ⟨a, x, y, s, q, m⟩ = ⟨a, x, y, s, (fShP 32 m q), (fShR 32 m q)⟩ := by kernel_rfl
  unfold Flg; simp only [e1, e2]
  simp only [fShR, fShP, Int.reduceEq, if_true, if_false]
  refine ⟨by trivial, fun i hi hs => ?_, fun i hi hs => ?_⟩ <;> rcases i8 hi with rfl | rfl | rfl | rfl | rfl | rfl | rfl | rfl <;> simp only [b0_131, b1_131, b2_131, b3_131, b4_131, b5_131, b6_131, b7_131] at hs <;> first | (cases hs; done) | (simp only [nz0, nz1, nz2, nz3, nz4, nz5, nz6, nz7, pt0_1, pt1_1, pt2_1, pt3_1, pt4_1, pt5_1, pt6_1, pt7_1, pt0_2, pt1_2, pt2_2, pt3_2, pt4_2, pt5_2, pt6_2, pt7_2, pt0_4, pt1_4, pt2_4, pt3_4, pt4_4, pt5_4, pt6_4, pt7_4, pt0_8, pt1_8, pt2_8, pt3_8, pt4_8, pt5_8, pt6_8, pt7_8, pt0_64, pt1_64, pt2_64, pt3_64, pt4_64, pt5_64, pt6_64, pt7_64, pt0_128, pt1_128, pt2_128, pt3_128, pt4_128, pt5_128, pt6_128, pt7_128]; done) | trivial | rfl
theorem D33 (a x y s p q m : Int) (h : Agr 0 p q) : Flg (dO 33) 0 ⟨a, x, y, s, p, m⟩ q := by
  have e1 : dO 33 ⟨a, x, y, s, p, m⟩ = ⟨a, x, y, s, p, m⟩ := by kernel_rfl
  have e2 : dO 33 ⟨a, x, y, s, q, m⟩ = ⟨a, x, y, s, q, m⟩ := by kernel_rfl
  unfold Flg; simp only [e1, e2]
  refine ⟨by trivial, fun i hi hs => ?_, fun i hi hs => ?_⟩ <;> rcases i8 hi with rfl | rfl | rfl | rfl | rfl | rfl | rfl | rfl <;> simp only [b0_0, b1_0, b2_0, b3_0, b4_0, b5_0, b6_0, b7_0] at hs <;> first | (cases hs; done) | (simp only [nz0, nz1, nz2, nz3, nz4, nz5, nz6, nz7, pt0_1, pt1_1, pt2_1, pt3_1, pt4_1, pt5_1, pt6_1, pt7_1, pt0_2, pt1_2, pt2_2, pt3_2, pt4_2, pt5_2, pt6_2, pt7_2, pt0_4, pt1_4, pt2_4, pt3_4, pt4_4, pt5_4, pt6_4, pt7_4, pt0_8, pt1_8, pt2_8, pt3_8, pt4_8, pt5_8, pt6_8, pt7_8, pt0_64, pt1_64, pt2_64, pt3_64, pt4_64, pt5_64, pt6_64, pt7_64, pt0_128, pt1_128, pt2_128, pt3_128, pt4_128, pt5_128, pt6_128, pt7_128]; done) | trivial | rfl
theorem D34 (a x y s p q m : Int) (h : Agr 0 p q) : Flg (dO 34) 130 ⟨a, x, y, s, p, m⟩ q := by
  have e1 : dO 34 ⟨a, x, y, s, p, m⟩ = ⟨(bOr .u8 a m), x, y, s, (fNz (bOr .u8 a m) p), m⟩ := by kernel_rfl
  have e2 : dO 34 ⟨a, x, y, s, q, m⟩ = ⟨(bOr .u8 a m), x, y, s, (fNz (bOr .u8 a m) q), m⟩ := by kernel_rfl
  unfold Flg; simp only [e1, e2]
  refine ⟨by trivial, fun i hi hs => ?_, fun i hi hs => ?_⟩ <;> rcases i8 hi with rfl | rfl | rfl | rfl | rfl | rfl | rfl | rfl <;> simp only [b0_130, b1_130, b2_130, b3_130, b4_130, b5_130, b6_130, b7_130] at hs <;> first | (cases hs; done) | (simp only [nz0, nz1, nz2, nz3, nz4, nz5, nz6, nz7, pt0_1, pt1_1, pt2_1, pt3_1, pt4_1, pt5_1, pt6_1, pt7_1, pt0_2, pt1_2, pt2_2, pt3_2, pt4_2, pt5_2, pt6_2, pt7_2, pt0_4, pt1_4, pt2_4, pt3_4, pt4_4, pt5_4, pt6_4, pt7_4, pt0_8, pt1_8, pt2_8, pt3_8, pt4_8, pt5_8, pt6_8, pt7_8, pt0_64, pt1_64, pt2_64, pt3_64, pt4_64, pt5_64, pt6_64, pt7_64, pt0_128, pt1_128, pt2_128, pt3_128, pt4_128, pt5_128, pt6_128, pt7_128]; done) | trivial | rfl
theorem D35 (a x y s p q m : Int) (h : Agr 0 p q) : Flg (dO 35) 0 ⟨a, x, y, s, p, m⟩ q := by
  have e1 : dO 35 ⟨a, x, y, s, p, m⟩ = ⟨a, x, y, s, p, (a)⟩ := by kernel_rfl
  have e2 : dO 35 ⟨a, x, y, s, q, m⟩ = ⟨a, x, y, s, q, (a)⟩ := by kernel_rfl
  unfold Flg; simp only [e1, e2]
  refine ⟨by trivial, fun i hi hs => ?_, fun i hi hs => ?_⟩ <;> rcases i8 hi with rfl | rfl | rfl | rfl | rfl | rfl | rfl | rfl <;> simp only [b0_0, b1_0, b2_0, b3_0, b4_0, b5_0, b6_0, b7_0] at hs <;> first | (cases hs; done) | (simp only [nz0, nz1, nz2, nz3, nz4, nz5, nz6, nz7, pt0_1, pt1_1, pt2_1, pt3_1, pt4_1, pt5_1, pt6_1, pt7_1, pt0_2, pt1_2, pt2_2, pt3_2, pt4_2, pt5_2, pt6_2, pt7_2, pt0_4, pt1_4, pt2_4, pt3_4, pt4_4, pt5_4, pt6_4, pt7_4, pt0_8, pt1_8, pt2_8, pt3_8, pt4_8, pt5_8, pt6_8, pt7_8, pt0_64, pt1_64, pt2_64, pt3_64, pt4_64, pt5_64, pt6_64, pt7_64, pt0_128, pt1_128, pt2_128, pt3_128, pt4_128, pt5_128, pt6_128, pt7_128]; done) | trivial | rfl
theorem D36 (a x y s p q m : Int) (h : Agr 207 p q) : Flg (dO 36) 0 ⟨a, x, y, s, p, m⟩ q := by
  have e1 : dO 36 ⟨a, x, y, s, p, m⟩ = ⟨a, x, y, s, p, (bOr .u8 (bOr .u8 p 16) 32)⟩ := by kernel_rfl
  have e2 : dO 36 ⟨a, x, y, s, q, m⟩ = ⟨a, x, y, s, q, (bOr .u8 (bOr .u8 q 16) 32)⟩ := by kernel_rfl
  unfold Flg; simp only [e1, e2]
  have hM : bOr .u8 (bOr .u8 q 16) 32 = bOr .u8 (bOr .u8 p 16) 32 := byte_ext (U8_or _ _) (U8_or _ _) fun i hi => by
    simp only [bit_or]
    have := h i hi
    rcases i8 hi with rfl | rfl | rfl | rfl | rfl | rfl | rfl | rfl <;> simp only [b0_207, b1_207, b2_207, b3_207, b4_207, b5_207, b6_207, b7_207] at this <;> simp only [b0_16, b1_16, b2_16, b3_16, b4_16, b5_16, b6_16, b7_16, b0_32, b1_32, b2_32, b3_32, b4_32, b5_32, b6_32, b7_32, Bool.or_true, Bool.or_false, Bool.true_or] <;> first | rfl | exact (this trivial).symm
  rw [hM]
  refine ⟨rfl, fun i hi hs => ?_, fun i hi hs => ?_⟩ <;> rcases i8 hi with rfl | rfl | rfl | rfl | rfl | rfl | rfl | rfl <;> simp only [b0_0, b1_0, b2_0, b3_0, b4_0, b5_0, b6_0, b7_0] at hs <;> first | (cases hs; done) | trivial | (simp only [bit_or, b0_4, b1_4, b2_4, b3_4, b4_4, b5_4, b6_4, b7_4, Bool.or_true, Bool.or_false])
theorem D37 (a x y s p q m : Int) (h : Agr 0 p q) : Flg (dO 37) 130 ⟨a, x, y, s, p, m⟩ q := by
  have e1 : dO 37 ⟨a, x, y, s, p, m⟩ = ⟨(m), x, y, s, (fNz m p), m⟩ := by kernel_rfl
  have e2 : dO 37 ⟨a, x, y, s, q, m⟩ = ⟨(m), x, y, s, (fNz m q), m⟩ := by kernel_rfl
  unfold Flg; simp only [e1, e2]
  refine ⟨by trivial, fun i hi hs => ?_, fun i hi hs => ?_⟩ <;> rcases i8 hi with rfl | rfl | rfl | rfl | rfl | rfl | rfl | rfl <;> simp only [b0_130, b1_130, b2_130, b3_130, b4_130, b5_130, b6_130, b7_130] at hs <;> first | (cases hs; done) | (simp only [nz0, nz1, nz2, nz3, nz4, nz5, nz6, nz7, pt0_1, pt1_1, pt2_1, pt3_1, pt4_1, pt5_1, pt6_1, pt7_1, pt0_2, pt1_2, pt2_2, pt3_2, pt4_2, pt5_2, pt6_2, pt7_2, pt0_4, pt1_4, pt2_4, pt3_4, pt4_4, pt5_4, pt6_4, pt7_4, pt0_8, pt1_8, pt2_8, pt3_8, pt4_8, pt5_8, pt6_8, pt7_8, pt0_64, pt1_64, pt2_64, pt3_64, pt4_64, pt5_64, pt6_64, pt7_64, pt0_128, pt1_128, pt2_128, pt3_128, pt4_128, pt5_128, pt6_128, pt7_128]; done) | trivial | rfl
theorem D38 (a x y s p q m : Int) (h : Agr 0 p q) : Flg (dO 38) 255 ⟨a, x, y, s, p, m⟩ q := by
  have e1 : dO 38 ⟨a, x, y, s, p, m⟩ = ⟨a, x, y, s, (bOr .u8 (bAndNot .u8 m 16) 32), m⟩ := by kernel_rfl
  have e2 : dO 38 ⟨a, x, y, s, q, m⟩ = ⟨a, x, y, s, (bOr .u8 (bAndNot .u8 m 16) 32), m⟩ := by kernel_rfl
  unfold Flg; simp only [e1, e2]
  refine ⟨by trivial, fun i hi hs => by trivial, fun i hi hs => ?_⟩ <;> rcases i8 hi with rfl | rfl | rfl | rfl | rfl | rfl | rfl | rfl <;> simp only [b0_255, b1_255, b2_255, b3_255, b4_255, b5_255, b6_255, b7_255] at hs <;> cases hs
theorem D39 (a x y s p q m : Int) (h : Agr 1 p q) : Flg (dO 39) 131 ⟨a, x, y, s, p, m⟩ q := by
  have e1 : dO 39 ⟨a, x, y, s, p, m⟩ = ⟨a, x, y, s, (fShP 39 m p), (fShR 39 m p)⟩ := by kernel_rfl
  have e2 : dO 39 ⟨a, x, y, s, q, m⟩ = ⟨a, x, y, s, (fShP 39 m q), (fShR 39 m q)⟩ := by kernel_rfl
  unfold Flg; simp only [e1, e2]
  have e0 := and1_congr (h 0 (by omega) b0_1)
  have hR : fShR 39 m q = fShR 39 m p := by unfold fShR; simp only [e0]
  simp only [fShP, hR]
  refine ⟨trivial, fun i hi hs => ?_, fun i hi hs => ?_⟩ <;> rcases i8 hi with rfl | rfl | rfl | rfl | rfl | rfl | rfl | rfl <;> simp only [b0_131, b1_131, b2_131, b3_131, b4_131, b5_131, b6_131, b7_131] at hs <;> first | (cases hs; done) | (simp only [nz0, nz1, nz2, nz3, nz4, nz5, nz6, nz7, pt0_1, pt1_1, pt2_1, pt3_1, pt4_1, pt5_1, pt6_1, pt7_1, pt0_2, pt1_2, pt2_2, pt3_2, pt4_2, pt5_2, pt6_2, pt7_2, pt0_4, pt1_4, pt2_4, pt3_4, pt4_4, pt5_4, pt6_4, pt7_4, pt0_8, pt1_8, pt2_8, pt3_8, pt4_8, pt5_8, pt6_8, pt7_8, pt0_64, pt1_64, pt2_64, pt3_64, pt4_64, pt5_64, pt6_64, pt7_64, pt0_128, pt1_128, pt2_128, pt3_128, pt4_128, pt5_128, pt6_128, pt7_128])
theorem D40 (a x y s p q m : Int) (h : Agr 1 p q) : Flg (dO 40) 131 ⟨a, x, y, s, p, m⟩ q := by
  have e1 : dO 40 ⟨a, x, y, s, p, m⟩ = ⟨a, x, y, s, (fShP 40 m p), (fShR 40 m p)⟩ := by kernel_rfl
  have e2 : dO 40 ⟨a, x, y, s, q, m⟩ = ⟨a, x, y, s, (fShP 40 m q), (fShR 40 m q)⟩ := by kernel_rfl
  unfold Flg; simp only [e1, e2]
  have e0 := and1_congr (h 0 (by omega) b0_1)
  have hR : fShR 40 m q = fShR 40 m p := by unfold fShR; simp only [e0]
  simp only [fShP, hR]
  refine ⟨trivial, fun i hi hs => ?_, fun i hi hs => ?_⟩ <;> rcases i8 hi with rfl | rfl | rfl | rfl | rfl | rfl | rfl | rfl <;> simp only [b0_131, b1_131, b2_131, b3_131, b4_131, b5_131, b6_131, b7_131] at hs <;> first | (cases hs; done) | (simp only [nz0, nz1, nz2, nz3, nz4, nz5, nz6, nz7, pt0_1, pt1_1, pt2_1, pt3_1, pt4_1, pt5_1, pt6_1, pt7_1, pt0_2, pt1_2, pt2_2, pt3_2, pt4_2, pt5_2, pt6_2, pt7_2, pt0_4, pt1_4, pt2_4, pt3_4, pt4_4, pt5_4, pt6_4, pt7_4, pt0_8, pt1_8, pt2_8, pt3_8, pt4_8, pt5_8, pt6_8, pt7_8, pt0_64, pt1_64, pt2_64, pt3_64, pt4_64, pt5_64, pt6_64, pt7_64, pt0_128, pt1_128, pt2_128, pt3_128, pt4_128, pt5_128, pt6_128, pt7_128])
theorem D41 (a x y s p q m : Int) (h : Agr 0 p q) : Flg (dO 41) 255 ⟨a, x, y, s, p, m⟩ q := by
  have e1 : dO 41 ⟨a, x, y, s, p, m⟩ = ⟨a, x, y, s, (bOr .u8 (bAndNot .u8 m 16) 32), m⟩ := by kernel_rfl
  have e2 : dO 41 ⟨a, x, y, s, q, m⟩ = ⟨a, x, y, s, (bOr .u8 (bAndNot .u8 m 16) 32), m⟩ := by kernel_rfl
  unfold Flg; simp only [e1, e2]
  refine ⟨by trivial, fun i hi hs => by trivial, fun i hi hs => ?_⟩ <;> rcases i8 hi with rfl | rfl | rfl | rfl | rfl | rfl | rfl | rfl <;> simp only [b0_255, b1_255, b2_255, b3_255, b4_255, b5_255, b6_255, b7_255] at hs <;> cases hs
theorem D42 (a x y s p q m : Int) (h : Agr 0 p q) : Flg (dO 42) 0 ⟨a, x, y, s, p, m⟩ q := by
  have e1 : dO 42 ⟨a, x, y, s, p, m⟩ = ⟨a, x, y, s, p, m⟩ := by kernel_rfl
  have e2 : dO 42 ⟨a, x, y, s, q, m⟩ = ⟨a, x, y, s, q, m⟩ := by kernel_rfl
  unfold Flg; simp only [e1, e2]
  refine ⟨by trivial, fun i hi hs => ?_, fun i hi hs => ?_⟩ <;> rcases i8 hi with rfl | rfl | rfl | rfl | rfl | rfl | rfl | rfl <;> simp only [b0_0, b1_0, b2_0, b3_0, b4_0, b5_0, b6_0, b7_0] at hs <;> first | (cases hs; done) | (simp only [nz0, nz1, nz2, nz3, nz4, nz5, nz6, nz7, pt0_1, pt1_1, pt2_1, pt3_1, pt4_1, pt5_1, pt6_1, pt7_1, pt0_2, pt1_2, pt2_2, pt3_2, pt4_2, pt5_2, pt6_2, pt7_2, pt0_4, pt1_4, pt2_4, pt3_4, pt4_4, pt5_4, pt6_4, pt7_4, pt0_8, pt1_8, pt2_8, pt3_8, pt4_8, pt5_8, pt6_8, pt7_8, pt0_64, pt1_64, pt2_64, pt3_64, pt4_64, pt5_64, pt6_64, pt7_64, pt0_128, pt1_128, pt2_128, pt3_128, pt4_128, pt5_128, pt6_128, pt7_128]; done) | trivial | rfl
theorem D43 (a x y s p q m : Int) (h : Agr 9 p q) : Flg (dO 43) 195 ⟨a, x, y, s, p, m⟩ q := by
  have e1 : dO 43 ⟨a, x, y, s, p, m⟩ = ⟨((fSbc a m p).1), x, y, s, ((fSbc a m p).2), m⟩ := by kernel_rfl
  have e2 : dO 43 ⟨a, x, y, s, q, m⟩ = ⟨((fSbc a m q).1), x, y, s, ((fSbc a m q).2), m⟩ := by kernel_rfl
  unfold Flg; simp only [e1, e2]
  obtain ⟨c1, c2⟩ := two_sbc.2 a m p q (h 0 (by omega) b0_9) (h 3 (by omega) b3_9)
  exact ⟨by rw [c1], c2, fun i hi hs => two_sbc.1 a m p i hi hs⟩
theorem D44 (a x y s p q m : Int) (h : Agr 0 p q) : Flg (dO 44) 1 ⟨a, x, y, s, p, m⟩ q := by
  have e1 : dO 44 ⟨a, x, y, s, p, m⟩ = ⟨a, x, y, s, (fPut p 1 true), m⟩ := by kernel_rfl
  have e2 : dO 44 ⟨a, x, y, s, q, m⟩ = ⟨a, x, y, s, (fPut q 1 true), m⟩ := by kernel_rfl
  unfold Flg; simp only [e1, e2]
  refine ⟨by trivial, fun i hi hs => ?_, fun i hi hs => ?_⟩ <;> rcases i8 hi with rfl | rfl | rfl | rfl | rfl | rfl | rfl | rfl <;> simp only [b0_1, b1_1, b2_1, b3_1, b4_1, b5_1, b6_1, b7_1] at hs <;> first | (cases hs; done) | (simp only [nz0, nz1, nz2, nz3, nz4, nz5, nz6, nz7, pt0_1, pt1_1, pt2_1, pt3_1, pt4_1, pt5_1, pt6_1, pt7_1, pt0_2, pt1_2, pt2_2, pt3_2, pt4_2, pt5_2, pt6_2, pt7_2, pt0_4, pt1_4, pt2_4, pt3_4, pt4_4, pt5_4, pt6_4, pt7_4, pt0_8, pt1_8, pt2_8, pt3_8, pt4_8, pt5_8, pt6_8, pt7_8, pt0_64, pt1_64, pt2_64, pt3_64, pt4_64, pt5_64, pt6_64, pt7_64, pt0_128, pt1_128, pt2_128, pt3_128, pt4_128, pt5_128, pt6_128, pt7_128]; done) | trivial | rfl
theorem D45 (a x y s p q m : Int) (h : Agr 0 p q) : Flg (dO 45) 8 ⟨a, x, y, s, p, m⟩ q := by
  have e1 : dO 45 ⟨a, x, y, s, p, m⟩ = ⟨a, x, y, s, (fPut p 8 true), m⟩ := by kernel_rfl
  have e2 : dO 45 ⟨a, x, y, s, q, m⟩ = ⟨a, x, y, s, (fPut q 8 true), m⟩ := by kernel_rfl
  unfold Flg; simp only [e1, e2]
  refine ⟨by trivial, fun i hi hs => ?_, fun i hi hs => ?_⟩ <;> rcases i8 hi with rfl | rfl | rfl | rfl | rfl | rfl | rfl | rfl <;> simp only [b0_8, b1_8, b2_8, b3_8, b4_8, b5_8, b6_8, b7_8] at hs <;> first | (cases hs; done) | (simp only [nz0, nz1, nz2, nz3, nz4, nz5, nz6, nz7, pt0_1, pt1_1, pt2_1, pt3_1, pt4_1, pt5_1, pt6_1, pt7_1, pt0_2, pt1_2, pt2_2, pt3_2, pt4_2, pt5_2, pt6_2, pt7_2, pt0_4, pt1_4, pt2_4, pt3_4, pt4_4, pt5_4, pt6_4, pt7_4, pt0_8, pt1_8, pt2_8, pt3_8, pt4_8, pt5_8, pt6_8, pt7_8, pt0_64, pt1_64, pt2_64, pt3_64, pt4_64, pt5_64, pt6_64, pt7_64, pt0_128, pt1_128, pt2_128, pt3_128, pt4_128, pt5_128, pt6_128, pt7_128]; done) | trivial | rfl
theorem D46 (a x y s p q m : Int) (h : Agr 0 p q) : Flg (dO 46) 4 ⟨a, x, y, s, p, m⟩ q := by
  have e1 : dO 46 ⟨a, x, y, s, p, m⟩ = ⟨a, x, y, s, (fPut p 4 true), m⟩ := by kernel_rfl
  have e2 : dO 46 ⟨a, x, y, s, q, m⟩ = ⟨a, x, y, s, (fPut q 4 true), m⟩ := by kernel_rfl
  unfold Flg; simp only [e1, e2]
  refine ⟨by trivial, fun i hi hs => ?_, fun i hi hs => ?_⟩ <;> rcases i8 hi with rfl | rfl | rfl | rfl | rfl | rfl | rfl | rfl <;> simp only [b0_4, b1_4, b2_4, b3_4, b4_4, b5_4, b6_4, b7_4] at hs <;> first | (cases hs; done) | (simp only [nz0, nz1, nz2, nz3, nz4, nz5, nz6, nz7, pt0_1, pt1_1, pt2_1, pt3_1, pt4_1, pt5_1, pt6_1, pt7_1, pt0_2, pt1_2, pt2_2, pt3_2, pt4_2, pt5_2, pt6_2, pt7_2, pt0_4, pt1_4, pt2_4, pt3_4, pt4_4, pt5_4, pt6_4, pt7_4, pt0_8, pt1_8, pt2_8, pt3_8, pt4_8, pt5_8, pt6_8, pt7_8, pt0_64, pt1_64, pt2_64, pt3_64, pt4_64, pt5_64, pt6_64, pt7_64, pt0_128, pt1_128, pt2_128, pt3_128, pt4_128, pt5_128, pt6_128, pt7_128]; done) | trivial | rfl
theorem D47 (a x y s p q m : Int) (h : Agr 0 p q) : Flg (dO 47) 0 ⟨a, x, y, s, p, m⟩ q := by
  have e1 : dO 47 ⟨a, x, y, s, p, m⟩ = ⟨a, x, y, s, p, (a)⟩ := by kernel_rfl
  have e2 : dO 47 ⟨a, x, y, s, q, m⟩ = ⟨a, x, y, s, q, (a)⟩ := by kernel_rfl
  unfold Flg; simp only [e1, e2]
  refine ⟨by trivial, fun i hi hs => ?_, fun i hi hs => ?_⟩ <;> rcases i8 hi with rfl | rfl | rfl | rfl | rfl | rfl | rfl | rfl <;> simp only [b0_0, b1_0, b2_0, b3_0, b4_0, b5_0, b6_0, b7_0] at hs <;> first | (cases hs; done) | (simp only [nz0, nz1, nz2, nz3, nz4, nz5, nz6, nz7, pt0_1, pt1_1, pt2_1, pt3_1, pt4_1, pt5_1, pt6_1, pt7_1, pt0_2, pt1_2, pt2_2, pt3_2, pt4_2, pt5_2, pt6_2, pt7_2, pt0_4, pt1_4, pt2_4, pt3_4, pt4_4, pt5_4, pt6_4, pt7_4, pt0_8, pt1_8, pt2_8, pt3_8, pt4_8, pt5_8, pt6_8, pt7_8, pt0_64, pt1_64, pt2_64, pt3_64, pt4_64, pt5_64, pt6_64, pt7_64, pt0_128, pt1_128, pt2_128, pt3_128, pt4_128, pt5_128, pt6_128, pt7_128]; done) | trivial | rfl
theorem D48 (a x y s p q m : Int) (h : Agr 0 p q) : Flg (dO 48) 0 ⟨a, x, y, s, p, m⟩ q := by
  have e1 : dO 48 ⟨a, x, y, s, p, m⟩ = ⟨a, x, y, s, p, (x)⟩ := by kernel_rfl
  have e2 : dO 48 ⟨a, x, y, s, q, m⟩ = ⟨a, x, y, s, q, (x)⟩ := by kernel_rfl
  unfold Flg; simp only [e1, e2]
  refine ⟨by trivial, fun i hi hs => ?_, fun i hi hs => ?_⟩ <;> rcases i8 hi with rfl | rfl | rfl | rfl | rfl | rfl | rfl | rfl <;> simp only [b0_0, b1_0, b2_0, b3_0, b4_0, b5_0, b6_0, b7_0] at hs <;> first | (cases hs; done) | (simp only [nz0, nz1, nz2, nz3, nz4, nz5, nz6, nz7, pt0_1, pt1_1, pt2_1, pt3_1, pt4_1, pt5_1, pt6_1, pt7_1, pt0_2, pt1_2, pt2_2, pt3_2, pt4_2, pt5_2, pt6_2, pt7_2, pt0_4, pt1_4, pt2_4, pt3_4, pt4_4, pt5_4, pt6_4, pt7_4, pt0_8, pt1_8, pt2_8, pt3_8, pt4_8, pt5_8, pt6_8, pt7_8, pt0_64, pt1_64, pt2_64, pt3_64, pt4_64, pt5_64, pt6_64, pt7_64, pt0_128, pt1_128, pt2_128, pt3_128, pt4_128, pt5_128, pt6_128, pt7_128]; done) | trivial | rfl
theorem D49 (a x y s p q m : Int) (h : Agr 0 p q) : Flg (dO 49) 0 ⟨a, x, y, s, p, m⟩ q := by
  have e1 : dO 49 ⟨a, x, y, s, p, m⟩ = ⟨a, x, y, s, p, (y)⟩ := by kernel_rfl
  have e2 : dO 49 ⟨a, x, y, s, q, m⟩ = ⟨a, x, y, s, q, (y)⟩ := by kernel_rfl
  unfold Flg; simp only [e1, e2]
  refine ⟨by trivial, fun i hi hs => ?_, fun i hi hs => ?_⟩ <;> rcases i8 hi with rfl | rfl | rfl | rfl | rfl | rfl | rfl | rfl <;> simp only [b0_0, b1_0, b2_0, b3_0, b4_0, b5_0, b6_0, b7_0] at hs <;> first | (cases hs; done) | (simp only [nz0, nz1, nz2, nz3, nz4, nz5, nz6, nz7, pt0_1, pt1_1, pt2_1, pt3_1, pt4_1, pt5_1, pt6_1, pt7_1, pt0_2, pt1_2, pt2_2, pt3_2, pt4_2, pt5_2, pt6_2, pt7_2, pt0_4, pt1_4, pt2_4, pt3_4, pt4_4, pt5_4, pt6_4, pt7_4, pt0_8, pt1_8, pt2_8, pt3_8, pt4_8, pt5_8, pt6_8, pt7_8, pt0_64, pt1_64, pt2_64, pt3_64, pt4_64, pt5_64, pt6_64, pt7_64, pt0_128, pt1_128, pt2_128, pt3_128, pt4_128, pt5_128, pt6_128, pt7_128]; done) | trivial | rfl
theorem D50 (a x y s p q m : Int) (h : Agr 0 p q) : Flg (dO 50) 130 ⟨a, x, y, s, p, m⟩ q := by
  have e1 : dO 50 ⟨a, x, y, s, p, m⟩ = ⟨a, (a), y, s, (fNz a p), m⟩ := by kernel_rfl
  have e2 : dO 50 ⟨a, x, y, s, q, m⟩ = ⟨a, (a), y, s, (fNz a q), m⟩ := by kernel_rfl
  unfold Flg; simp only [e1, e2]
  refine ⟨by trivial, fun i hi hs => ?_, fun i hi hs => ?_⟩ <;> rcases i8 hi with rfl | rfl | rfl | rfl | rfl | rfl | rfl | rfl <;> simp only [b0_130, b1_130, b2_130, b3_130, b4_130, b5_130, b6_130, b7_130] at hs <;> first | (cases hs; done) | (simp only [nz0, nz1, nz2, nz3, nz4, nz5, nz6, nz7, pt0_1, pt1_1, pt2_1, pt3_1, pt4_1, pt5_1, pt6_1, pt7_1, pt0_2, pt1_2, pt2_2, pt3_2, pt4_2, pt5_2, pt6_2, pt7_2, pt0_4, pt1_4, pt2_4, pt3_4, pt4_4, pt5_4, pt6_4, pt7_4, pt0_8, pt1_8, pt2_8, pt3_8, pt4_8, pt5_8, pt6_8, pt7_8, pt0_64, pt1_64, pt2_64, pt3_64, pt4_64, pt5_64, pt6_64, pt7_64, pt0_128, pt1_128, pt2_128, pt3_128, pt4_128, pt5_128, pt6_128, pt7_128]; done) | trivial | rfl
theorem D51 (a x y s p q m : Int) (h : Agr 0 p q) : Flg (dO 51) 130 ⟨a, x, y, s, p, m⟩ q := by
  have e1 : dO 51 ⟨a, x, y, s, p, m⟩ = ⟨a, x, (a), s, (fNz a p), m⟩ := by kernel_rfl
  have e2 : dO 51 ⟨a, x, y, s, q, m⟩ = ⟨a, x, (a), s, (fNz a q), m⟩ := by kernel_rfl
  unfold Flg; simp only [e1, e2]
  refine ⟨by trivial, fun i hi hs => ?_, fun i hi hs => ?_⟩ <;> rcases i8 hi with rfl | rfl | rfl | rfl | rfl | rfl | rfl | rfl <;> simp only [b0_130, b1_130, b2_130, b3_130, b4_130, b5_130, b6_130, b7_130] at hs <;> first | (cases hs; done) | (simp only [nz0, nz1, nz2, nz3, nz4, nz5, nz6, nz7, pt0_1, pt1_1, pt2_1, pt3_1, pt4_1, pt5_1, pt6_1, pt7_1, pt0_2, pt1_2, pt2_2, pt3_2, pt4_2, pt5_2, pt6_2, pt7_2, pt0_4, pt1_4, pt2_4, pt3_4, pt4_4, pt5_4, pt6_4, pt7_4, pt0_8, pt1_8, pt2_8, pt3_8, pt4_8, pt5_8, pt6_8, pt7_8, pt0_64, pt1_64, pt2_64, pt3_64, pt4_64, pt5_64, pt6_64, pt7_64, pt0_128, pt1_128, pt2_128, pt3_128, pt4_128, pt5_128, pt6_128, pt7_128]; done) | trivial | rfl
theorem D52 (a x y s p q m : Int) (h : Agr 0 p q) : Flg (dO 52) 130 ⟨a, x, y, s, p, m⟩ q := by
  have e1 : dO 52 ⟨a, x, y, s, p, m⟩ = ⟨a, (s), y, s, (fNz s p), m⟩ := by kernel_rfl
  have e2 : dO 52 ⟨a, x, y, s, q, m⟩ = ⟨a, (s), y, s, (fNz s q), m⟩ := by kernel_rfl
  unfold Flg; simp only [e1, e2]
  refine ⟨by trivial, fun i hi hs => ?_, fun i hi hs => ?_⟩ <;> rcases i8 hi with rfl | rfl | rfl | rfl | rfl | rfl | rfl | rfl <;> simp only [b0_130, b1_130, b2_130, b3_130, b4_130, b5_130, b6_130, b7_130] at hs <;> first | (cases hs; done) | (simp only [nz0, nz1, nz2, nz3, nz4, nz5, nz6, nz7, pt0_1, pt1_1, pt2_1, pt3_1, pt4_1, pt5_1, pt6_1, pt7_1, pt0_2, pt1_2, pt2_2, pt3_2, pt4_2, pt5_2, pt6_2, pt7_2, pt0_4, pt1_4, pt2_4, pt3_4, pt4_4, pt5_4, pt6_4, pt7_4, pt0_8, pt1_8, pt2_8, pt3_8, pt4_8, pt5_8, pt6_8, pt7_8, pt0_64, pt1_64, pt2_64, pt3_64, pt4_64, pt5_64, pt6_64, pt7_64, pt0_128, pt1_128, pt2_128, pt3_128, pt4_128, pt5_128, pt6_128, pt7_128]; done) | trivial | rfl
theorem D53 (a x y s p q m : Int) (h : Agr 0 p q) : Flg (dO 53) 130 ⟨a, x, y, s, p, m⟩ q := by
  have e1 : dO 53 ⟨a, x, y, s, p, m⟩ = ⟨(x), x, y, s, (fNz x p), m⟩ := by kernel_rfl
  have e2 : dO 53 ⟨a, x, y, s, q, m⟩ = ⟨(x), x, y, s, (fNz x q), m⟩ := by kernel_rfl
  unfold Flg; simp only [e1, e2]
  refine ⟨by trivial, fun i hi hs => ?_, fun i hi hs => ?_⟩ <;> rcases i8 hi with rfl | rfl | rfl | rfl | rfl | rfl | rfl | rfl <;> simp only [b0_130, b1_130, b2_130, b3_130, b4_130, b5_130, b6_130, b7_130] at hs <;> first | (cases hs; done) | (simp only [nz0, nz1, nz2, nz3, nz4, nz5, nz6, nz7, pt0_1, pt1_1, pt2_1, pt3_1, pt4_1, pt5_1, pt6_1, pt7_1, pt0_2, pt1_2, pt2_2, pt3_2, pt4_2, pt5_2, pt6_2, pt7_2, pt0_4, pt1_4, pt2_4, pt3_4, pt4_4, pt5_4, pt6_4, pt7_4, pt0_8, pt1_8, pt2_8, pt3_8, pt4_8, pt5_8, pt6_8, pt7_8, pt0_64, pt1_64, pt2_64, pt3_64, pt4_64, pt5_64, pt6_64, pt7_64, pt0_128, pt1_128, pt2_128, pt3_128, pt4_128, pt5_128, pt6_128, pt7_128]; done) | trivial | rfl
theorem D54 (a x y s p q m : Int) (h : Agr 0 p q) : Flg (dO 54) 0 ⟨a, x, y, s, p, m⟩ q := by
  have e1 : dO 54 ⟨a, x, y, s, p, m⟩ = ⟨a, x, y, (x), p, m⟩ := by kernel_rfl
  have e2 : dO 54 ⟨a, x, y, s, q, m⟩ = ⟨a, x, y, (x), q, m⟩ := by kernel_rfl
  unfold Flg; simp only [e1, e2]
  refine ⟨by trivial, fun i hi hs => ?_, fun i hi hs => ?_⟩ <;> rcases i8 hi with rfl | rfl | rfl | rfl | rfl | rfl | rfl | rfl <;> simp only [b0_0, b1_0, b2_0, b3_0, b4_0, b5_0, b6_0, b7_0] at hs <;> first | (cases hs; done) | (simp only [nz0, nz1, nz2, nz3, nz4, nz5, nz6, nz7, pt0_1, pt1_1, pt2_1, pt3_1, pt4_1, pt5_1, pt6_1, pt7_1, pt0_2, pt1_2, pt2_2, pt3_2, pt4_2, pt5_2, pt6_2, pt7_2, pt0_4, pt1_4, pt2_4, pt3_4, pt4_4, pt5_4, pt6_4, pt7_4, pt0_8, pt1_8, pt2_8, pt3_8, pt4_8, pt5_8, pt6_8, pt7_8, pt0_64, pt1_64, pt2_64, pt3_64, pt4_64, pt5_64, pt6_64, pt7_64, pt0_128, pt1_128, pt2_128, pt3_128, pt4_128, pt5_128, pt6_128, pt7_128]; done) | trivial | rfl
theorem D55 (a x y s p q m : Int) (h : Agr 0 p q) : Flg (dO 55) 130 ⟨a, x, y, s, p, m⟩ q := by
  have e1 : dO 55 ⟨a, x, y, s, p, m⟩ = ⟨(y), x, y, s, (fNz y p), m⟩ := by kernel_rfl
  have e2 : dO 55 ⟨a, x, y, s, q, m⟩ = ⟨(y), x, y, s, (fNz y q), m⟩ := by kernel_rfl
  unfold Flg; simp only [e1, e2]
  refine ⟨by trivial, fun i hi hs => ?_, fun i hi hs => ?_⟩ <;> rcases i8 hi with rfl | rfl | rfl | rfl | rfl | rfl | rfl | rfl <;> simp only [b0_130, b1_130, b2_130, b3_130, b4_130, b5_130, b6_130, b7_130] at hs <;> first | (cases hs; done) | (simp only [nz0, nz1, nz2, nz3, nz4, nz5, nz6, nz7, pt0_1, pt1_1, pt2_1, pt3_1, pt4_1, pt5_1, pt6_1, pt7_1, pt0_2, pt1_2, pt2_2, pt3_2, pt4_2, pt5_2, pt6_2, pt7_2, pt0_4, pt1_4, pt2_4, pt3_4, pt4_4, pt5_4, pt6_4, pt7_4, pt0_8, pt1_8, pt2_8, pt3_8, pt4_8, pt5_8, pt6_8, pt7_8, pt0_64, pt1_64, pt2_64, pt3_64, pt4_64, pt5_64, pt6_64, pt7_64, pt0_128, pt1_128, pt2_128, pt3_128, pt4_128, pt5_128, pt6_128, pt7_128]; done) | trivial | rfl
theorem D56 (a x y s p q m : Int) (h : Agr 0 p q) : Flg (dO 56) 131 ⟨a, x, y, s, p, m⟩ q := by
  have e1 : dO 56 ⟨a, x, y, s, p, m⟩ = ⟨(fShR 32 (bAnd .u8 a m) (fNz (bAnd .u8 a m) p)), x, y, s, (fShP 32 (bAnd .u8 a m) (fNz (bAnd .u8 a m) p)), m⟩ := by kernel_rfl
  have e2 : dO 56 ⟨a, x, y, s, q, m⟩ = ⟨(fShR 32 (bAnd .u8 a m) (fNz (bAnd .u8 a m) q)), x, y, s, (fShP 32 (bAnd .u8 a m) (fNz (bAnd .u8 a m) q)), m⟩ := by kernel_rfl
  unfold Flg; simp only [e1, e2]
  simp only [fShR, fShP, Int.reduceEq, if_true, if_false]
  refine ⟨by trivial, fun i hi hs => ?_, fun i hi hs => ?_⟩ <;> rcases i8 hi with rfl | rfl | rfl | rfl | rfl | rfl | rfl | rfl <;> simp only [b0_131, b1_131, b2_131, b3_131, b4_131, b5_131, b6_131, b7_131] at hs <;> first | (cases hs; done) | (simp only [nz0, nz1, nz2, nz3, nz4, nz5, nz6, nz7, pt0_1, pt1_1, pt2_1, pt3_1, pt4_1, pt5_1, pt6_1, pt7_1, pt0_2, pt1_2, pt2_2, pt3_2, pt4_2, pt5_2, pt6_2, pt7_2, pt0_4, pt1_4, pt2_4, pt3_4, pt4_4, pt5_4, pt6_4, pt7_4, pt0_8, pt1_8, pt2_8, pt3_8, pt4_8, pt5_8, pt6_8, pt7_8, pt0_64, pt1_64, pt2_64, pt3_64, pt4_64, pt5_64, pt6_64, pt7_64, pt0_128, pt1_128, pt2_128, pt3_128, pt4_128, pt5_128, pt6_128, pt7_128]; done) | trivial | rfl
theorem D57 (a x y s p q m : Int) (h : Agr 0 p q) : Flg (dO 57) 131 ⟨a, x, y, s, p, m⟩ q := by
  have e1 : dO 57 ⟨a, x, y, s, p, m⟩ = ⟨(bAnd .u8 a m), x, y, s, (fPut (fNz (bAnd .u8 a m) p) 1 (bAnd .u8 (bAnd .u8 a m) 128 != 0)), m⟩ := by kernel_rfl
  have e2 : dO 57 ⟨a, x, y, s, q, m⟩ = ⟨(bAnd .u8 a m), x, y, s, (fPut (fNz (bAnd .u8 a m) q) 1 (bAnd .u8 (bAnd .u8 a m) 128 != 0)), m⟩ := by kernel_rfl
  unfold Flg; simp only [e1, e2]
  refine ⟨by trivial, fun i hi hs => ?_, fun i hi hs => ?_⟩ <;> rcases i8 hi with rfl | rfl | rfl | rfl | rfl | rfl | rfl | rfl <;> simp only [b0_131, b1_131, b2_131, b3_131, b4_131, b5_131, b6_131, b7_131] at hs <;> first | (cases hs; done) | (simp only [nz0, nz1, nz2, nz3, nz4, nz5, nz6, nz7, pt0_1, pt1_1, pt2_1, pt3_1, pt4_1, pt5_1, pt6_1, pt7_1, pt0_2, pt1_2, pt2_2, pt3_2, pt4_2, pt5_2, pt6_2, pt7_2, pt0_4, pt1_4, pt2_4, pt3_4, pt4_4, pt5_4, pt6_4, pt7_4, pt0_8, pt1_8, pt2_8, pt3_8, pt4_8, pt5_8, pt6_8, pt7_8, pt0_64, pt1_64, pt2_64, pt3_64, pt4_64, pt5_64, pt6_64, pt7_64, pt0_128, pt1_128, pt2_128, pt3_128, pt4_128, pt5_128, pt6_128, pt7_128]; done) | trivial | rfl
theorem D58 (a x y s p q m : Int) (h : Agr 9 p q) : Flg (dO 58) 195 ⟨a, x, y, s, p, m⟩ q := by
  have e1 : dO 58 ⟨a, x, y, s, p, m⟩ = ⟨((fArr a m p).1), x, y, s, ((fArr a m p).2), m⟩ := by kernel_rfl
  have e2 : dO 58 ⟨a, x, y, s, q, m⟩ = ⟨((fArr a m q).1), x, y, s, ((fArr a m q).2), m⟩ := by kernel_rfl
  unfold Flg; simp only [e1, e2]
  obtain ⟨c1, c2⟩ := two_arr.2 a m p q (h 0 (by omega) b0_9) (h 3 (by omega) b3_9)
  exact ⟨by rw [c1], c2, fun i hi hs => two_arr.1 a m p i hi hs⟩
theorem D59 (a x y s p q m : Int) (h : Agr 0 p q) : Flg (dO 59) 131 ⟨a, x, y, s, p, m⟩ q := by
  have e1 : dO 59 ⟨a, x, y, s, p, m⟩ = ⟨a, x, y, s, (fCmp a (IntKind.u8.wrap (m - 1)) p), (IntKind.u8.wrap (m - 1))⟩ := by kernel_rfl
  have e2 : dO 59 ⟨a, x, y, s, q, m⟩ = ⟨a, x, y, s, (fCmp a (IntKind.u8.wrap (m - 1)) q), (IntKind.u8.wrap (m - 1))⟩ := by kernel_rfl
  unfold Flg; simp only [e1, e2]
  simp only [fCmp, Int.reduceEq, if_true, if_false]
  refine ⟨by trivial, fun i hi hs => ?_, fun i hi hs => ?_⟩ <;> rcases i8 hi with rfl | rfl | rfl | rfl | rfl | rfl | rfl | rfl <;> simp only [b0_131, b1_131, b2_131, b3_131, b4_131, b5_131, b6_131, b7_131] at hs <;> first | (cases hs; done) | (simp only [nz0, nz1, nz2, nz3, nz4, nz5, nz6, nz7, pt0_1, pt1_1, pt2_1, pt3_1, pt4_1, pt5_1, pt6_1, pt7_1, pt0_2, pt1_2, pt2_2, pt3_2, pt4_2, pt5_2, pt6_2, pt7_2, pt0_4, pt1_4, pt2_4, pt3_4, pt4_4, pt5_4, pt6_4, pt7_4, pt0_8, pt1_8, pt2_8, pt3_8, pt4_8, pt5_8, pt6_8, pt7_8, pt0_64, pt1_64, pt2_64, pt3_64, pt4_64, pt5_64, pt6_64, pt7_64, pt0_128, pt1_128, pt2_128, pt3_128, pt4_128, pt5_128, pt6_128, pt7_128]; done) | trivial | rfl
theorem D60 (a x y s p q m : Int) (h : Agr 9 p q) : Flg (dO 60) 195 ⟨a, x, y, s, p, m⟩ q := by
  have e1 : dO 60 ⟨a, x, y, s, p, m⟩ = ⟨((fSbc a (IntKind.u8.wrap (m + 1)) p).1), x, y, s, ((fSbc a (IntKind.u8.wrap (m + 1)) p).2), (IntKind.u8.wrap (m + 1))⟩ := by kernel_rfl
  have e2 : dO 60 ⟨a, x, y, s, q, m⟩ = ⟨((fSbc a (IntKind.u8.wrap (m + 1)) q).1), x, y, s, ((fSbc a (IntKind.u8.wrap (m + 1)) q).2), (IntKind.u8.wrap (m + 1))⟩ := by kernel_rfl
  unfold Flg; simp only [e1, e2]
  obtain ⟨c1, c2⟩ := two_sbc.2 a (IntKind.u8.wrap (m + 1)) p q (h 0 (by omega) b0_9) (h 3 (by omega) b3_9)
  exact ⟨by rw [c1], c2, fun i hi hs => two_sbc.1 a (IntKind.u8.wrap (m + 1)) p i hi hs⟩
theorem D61 (a x y s p q m : Int) (h : Agr 0 p q) : Flg (dO 61) 130 ⟨a, x, y, s, p, m⟩ q := by
  have e1 : dO 61 ⟨a, x, y, s, p, m⟩ = ⟨(bAnd .u8 s m), (bAnd .u8 s m), y, (bAnd .u8 s m), (fNz (bAnd .u8 s m) p), m⟩ := by kernel_rfl
  have e2 : dO 61 ⟨a, x, y, s, q, m⟩ = ⟨(bAnd .u8 s m), (bAnd .u8 s m), y, (bAnd .u8 s m), (fNz (bAnd .u8 s m) q), m⟩ := by kernel_rfl
  unfold Flg; simp only [e1, e2]
  refine ⟨by trivial, fun i hi hs => ?_, fun i hi hs => ?_⟩ <;> rcases i8 hi with rfl | rfl | rfl | rfl | rfl | rfl | rfl | rfl <;> simp only [b0_130, b1_130, b2_130, b3_130, b4_130, b5_130, b6_130, b7_130] at hs <;> first | (cases hs; done) | (simp only [nz0, nz1, nz2, nz3, nz4, nz5, nz6, nz7, pt0_1, pt1_1, pt2_1, pt3_1, pt4_1, pt5_1, pt6_1, pt7_1, pt0_2, pt1_2, pt2_2, pt3_2, pt4_2, pt5_2, pt6_2, pt7_2, pt0_4, pt1_4, pt2_4, pt3_4, pt4_4, pt5_4, pt6_4, pt7_4, pt0_8, pt1_8, pt2_8, pt3_8, pt4_8, pt5_8, pt6_8, pt7_8, pt0_64, pt1_64, pt2_64, pt3_64, pt4_64, pt5_64, pt6_64, pt7_64, pt0_128, pt1_128, pt2_128, pt3_128, pt4_128, pt5_128, pt6_128, pt7_128]; done) | trivial | rfl
theorem D62 (a x y s p q m : Int) (h : Agr 0 p q) : Flg (dO 62) 130 ⟨a, x, y, s, p, m⟩ q := by
  have e1 : dO 62 ⟨a, x, y, s, p, m⟩ = ⟨(m), (m), y, s, (fNz m (fNz m p)), m⟩ := by kernel_rfl
  have e2 : dO 62 ⟨a, x, y, s, q, m⟩ = ⟨(m), (m), y, s, (fNz m (fNz m q)), m⟩ := by kernel_rfl
  unfold Flg; simp only [e1, e2]
  refine ⟨by trivial, fun i hi hs => ?_, fun i hi hs => ?_⟩ <;> rcases i8 hi with rfl | rfl | rfl | rfl | rfl | rfl | rfl | rfl <;> simp only [b0_130, b1_130, b2_130, b3_130, b4_130, b5_130, b6_130, b7_130] at hs <;> first | (cases hs; done) | (simp only [nz0, nz1, nz2, nz3, nz4, nz5, nz6, nz7, pt0_1, pt1_1, pt2_1, pt3_1, pt4_1, pt5_1, pt6_1, pt7_1, pt0_2, pt1_2, pt2_2, pt3_2, pt4_2, pt5_2, pt6_2, pt7_2, pt0_4, pt1_4, pt2_4, pt3_4, pt4_4, pt5_4, pt6_4, pt7_4, pt0_8, pt1_8, pt2_8, pt3_8, pt4_8, pt5_8, pt6_8, pt7_8, pt0_64, pt1_64, pt2_64, pt3_64, pt4_64, pt5_64, pt6_64, pt7_64, pt0_128, pt1_128, pt2_128, pt3_128, pt4_128, pt5_128, pt6_128, pt7_128]; done) | trivial | rfl
theorem D63 (a x y s p q m : Int) (h : Agr 1 p q) : Flg (dO 63) 131 ⟨a, x, y, s, p, m⟩ q := by
  have e1 : dO 63 ⟨a, x, y, s, p, m⟩ = ⟨(bAnd .u8 a (fShR 39 m p)), x, y, s, (fNz (bAnd .u8 a (fShR 39 m p)) (fShP 39 m p)), (fShR 39 m p)⟩ := by kernel_rfl
  have e2 : dO 63 ⟨a, x, y, s, q, m⟩ = ⟨(bAnd .u8 a (fShR 39 m q)), x, y, s, (fNz (bAnd .u8 a (fShR 39 m q)) (fShP 39 m q)), (fShR 39 m q)⟩ := by kernel_rfl
  unfold Flg; simp only [e1, e2]
  have e0 := and1_congr (h 0 (by omega) b0_1)
  have hR : fShR 39 m q = fShR 39 m p := by unfold fShR; simp only [e0]
  simp only [fShP, hR]
  refine ⟨trivial, fun i hi hs => ?_, fun i hi hs => ?_⟩ <;> rcases i8 hi with rfl | rfl | rfl | rfl | rfl | rfl | rfl | rfl <;> simp only [b0_131, b1_131, b2_131, b3_131, b4_131, b5_131, b6_131, b7_131] at hs <;> first | (cases hs; done) | (simp only [nz0, nz1, nz2, nz3, nz4, nz5, nz6, nz7, pt0_1, pt1_1, pt2_1, pt3_1, pt4_1, pt5_1, pt6_1, pt7_1, pt0_2, pt1_2, pt2_2, pt3_2, pt4_2, pt5_2, pt6_2, pt7_2, pt0_4, pt1_4, pt2_4, pt3_4, pt4_4, pt5_4, pt6_4, pt7_4, pt0_8, pt1_8, pt2_8, pt3_8, pt4_8, pt5_8, pt6_8, pt7_8, pt0_64, pt1_64, pt2_64, pt3_64, pt4_64, pt5_64, pt6_64, pt7_64, pt0_128, pt1_128, pt2_128, pt3_128, pt4_128, pt5_128, pt6_128, pt7_128])
theorem D64 (a x y s p q m : Int) (h : Agr 9 p q) : Flg (dO 64) 195 ⟨a, x, y, s, p, m⟩ q := by
  have e1 : dO 64 ⟨a, x, y, s, p, m⟩ = ⟨((fAdc a (fShR 40 m p) (fShP 40 m p)).1), x, y, s, ((fAdc a (fShR 40 m p) (fShP 40 m p)).2), (fShR 40 m p)⟩ := by kernel_rfl
  have e2 : dO 64 ⟨a, x, y, s, q, m⟩ = ⟨((fAdc a (fShR 40 m q) (fShP 40 m q)).1), x, y, s, ((fAdc a (fShR 40 m q) (fShP 40 m q)).2), (fShR 40 m q)⟩ := by kernel_rfl
  unfold Flg; simp only [e1, e2]
  have e0 := and1_congr (h 0 (by omega) b0_9)
  have hR : fShR 40 m q = fShR 40 m p := by unfold fShR; simp only [e0]
  have k0 : bit 0 (fShP 40 m p) = bit 0 (fShP 40 m q) := by unfold fShP; simp only [nz0, pt0_1, Int.reduceEq, if_false]
  have k3 : bit 3 (fShP 40 m p) = bit 3 (fShP 40 m q) := by unfold fShP; simp only [nz3, pt3_1]; exact h 3 (by omega) b3_9
  rw [hR]
  obtain ⟨c1, c2⟩ := two_adc.2 a (fShR 40 m p) (fShP 40 m p) (fShP 40 m q) k0 k3
  refine ⟨by rw [c1], c2, fun i hi hs => ?_⟩
  rw [two_adc.1 a _ _ i hi hs]
  unfold fShP
  rcases i8 hi with rfl | rfl | rfl | rfl | rfl | rfl | rfl | rfl <;> simp only [b0_195, b1_195, b2_195, b3_195, b4_195, b5_195, b6_195, b7_195] at hs <;> first | (cases hs; done) | (simp only [nz0, nz1, nz2, nz3, nz4, nz5, nz6, nz7, pt0_1, pt1_1, pt2_1, pt3_1, pt4_1, pt5_1, pt6_1, pt7_1, pt0_2, pt1_2, pt2_2, pt3_2, pt4_2, pt5_2, pt6_2, pt7_2, pt0_4, pt1_4, pt2_4, pt3_4, pt4_4, pt5_4, pt6_4, pt7_4, pt0_8, pt1_8, pt2_8, pt3_8, pt4_8, pt5_8, pt6_8, pt7_8, pt0_64, pt1_64, pt2_64, pt3_64, pt4_64, pt5_64, pt6_64, pt7_64, pt0_128, pt1_128, pt2_128, pt3_128, pt4_128, pt5_128, pt6_128, pt7_128])
theorem D65 (a x y s p q m : Int) (h : Agr 0 p q) : Flg (dO 65) 0 ⟨a, x, y, s, p, m⟩ q := by
  have e1 : dO 65 ⟨a, x, y, s, p, m⟩ = ⟨a, x, y, s, p, (bAnd .u8 a x)⟩ := by kernel_rfl
  have e2 : dO 65 ⟨a, x, y, s, q, m⟩ = ⟨a, x, y, s, q, (bAnd .u8 a x)⟩ := by kernel_rfl
  unfold Flg; simp only [e1, e2]
  refine ⟨by trivial, fun i hi hs => ?_, fun i hi hs => ?_⟩ <;> rcases i8 hi with rfl | rfl | rfl | rfl | rfl | rfl | rfl | rfl <;> simp only [b0_0, b1_0, b2_0, b3_0, b4_0, b5_0, b6_0, b7_0] at hs <;> first | (cases hs; done) | (simp only [nz0, nz1, nz2, nz3, nz4, nz5, nz6, nz7, pt0_1, pt1_1, pt2_1, pt3_1, pt4_1, pt5_1, pt6_1, pt7_1, pt0_2, pt1_2, pt2_2, pt3_2, pt4_2, pt5_2, pt6_2, pt7_2, pt0_4, pt1_4, pt2_4, pt3_4, pt4_4, pt5_4, pt6_4, pt7_4, pt0_8, pt1_8, pt2_8, pt3_8, pt4_8, pt5_8, pt6_8, pt7_8, pt0_64, pt1_64, pt2_64, pt3_64, pt4_64, pt5_64, pt6_64, pt7_64, pt0_128, pt1_128, pt2_128, pt3_128, pt4_128, pt5_128, pt6_128, pt7_128]; done) | trivial | rfl
theorem D66 (a x y s p q m : Int) (h : Agr 0 p q) : Flg (dO 66) 131 ⟨a, x, y, s, p, m⟩ q := by
  have e1 : dO 66 ⟨a, x, y, s, p, m⟩ = ⟨a, (IntKind.u8.wrap (bAnd .u8 a x - m)), y, s, (fCmp (bAnd .u8 a x) m p), m⟩ := by kernel_rfl
  have e2 : dO 66 ⟨a, x, y, s, q, m⟩ = ⟨a, (IntKind.u8.wrap (bAnd .u8 a x - m)), y, s, (fCmp (bAnd .u8 a x) m q), m⟩ := by kernel_rfl
  unfold Flg; simp only [e1, e2]
  simp only [fCmp, Int.reduceEq, if_true, if_false]
  refine ⟨by trivial, fun i hi hs => ?_, fun i hi hs => ?_⟩ <;> rcases i8 hi with rfl | rfl | rfl | rfl | rfl | rfl | rfl | rfl <;> simp only [b0_131, b1_131, b2_131, b3_131, b4_131, b5_131, b6_131, b7_131] at hs <;> first | (cases hs; done) | (simp only [nz0, nz1, nz2, nz3, nz4, nz5, nz6, nz7, pt0_1, pt1_1, pt2_1, pt3_1, pt4_1, pt5_1, pt6_1, pt7_1, pt0_2, pt1_2, pt2_2, pt3_2, pt4_2, pt5_2, pt6_2, pt7_2, pt0_4, pt1_4, pt2_4, pt3_4, pt4_4, pt5_4, pt6_4, pt7_4, pt0_8, pt1_8, pt2_8, pt3_8, pt4_8, pt5_8, pt6_8, pt7_8, pt0_64, pt1_64, pt2_64, pt3_64, pt4_64, pt5_64, pt6_64, pt7_64, pt0_128, pt1_128, pt2_128, pt3_128, pt4_128, pt5_128, pt6_128, pt7_128]; done) | trivial | rfl
theorem D67 (a x y s p q m : Int) (h : Agr 0 p q) : Flg (dO 67) 131 ⟨a, x, y, s, p, m⟩ q := by
  have e1 : dO 67 ⟨a, x, y, s, p, m⟩ = ⟨(bOr .u8 a (fShR 2 m p)), x, y, s, (fNz (bOr .u8 a (fShR 2 m p)) (fShP 2 m p)), (fShR 2 m p)⟩ := by kernel_rfl
  have e2 : dO 67 ⟨a, x, y, s, q, m⟩ = ⟨(bOr .u8 a (fShR 2 m q)), x, y, s, (fNz (bOr .u8 a (fShR 2 m q)) (fShP 2 m q)), (fShR 2 m q)⟩ := by kernel_rfl
  unfold Flg; simp only [e1, e2]
  simp only [fShR, fShP, Int.reduceEq, if_true, if_false]
  refine ⟨by trivial, fun i hi hs => ?_, fun i hi hs => ?_⟩ <;> rcases i8 hi with rfl | rfl | rfl | rfl | rfl | rfl | rfl | rfl <;> simp only [b0_131, b1_131, b2_131, b3_131, b4_131, b5_131, b6_131, b7_131] at hs <;> first | (cases hs; done) | (simp only [nz0, nz1, nz2, nz3, nz4, nz5, nz6, nz7, pt0_1, pt1_1, pt2_1, pt3_1, pt4_1, pt5_1, pt6_1, pt7_1, pt0_2, pt1_2, pt2_2, pt3_2, pt4_2, pt5_2, pt6_2, pt7_2, pt0_4, pt1_4, pt2_4, pt3_4, pt4_4, pt5_4, pt6_4, pt7_4, pt0_8, pt1_8, pt2_8, pt3_8, pt4_8, pt5_8, pt6_8, pt7_8, pt0_64, pt1_64, pt2_64, pt3_64, pt4_64, pt5_64, pt6_64, pt7_64, pt0_128, pt1_128, pt2_128, pt3_128, pt4_128, pt5_128, pt6_128, pt7_128]; done) | trivial | rfl
theorem D68 (a x y s p q m : Int) (h : Agr 0 p q) : Flg (dO 68) 131 ⟨a, x, y, s, p, m⟩ q := by
  have e1 : dO 68 ⟨a, x, y, s, p, m⟩ = ⟨(bXor .u8 a (fShR 32 m p)), x, y, s, (fNz (bXor .u8 a (fShR 32 m p)) (fShP 32 m p)), (fShR 32 m p)⟩ := by kernel_rfl
  have e2 : dO 68 ⟨a, x, y, s, q, m⟩ = ⟨(bXor .u8 a (fShR 32 m q)), x, y, s, (fNz (bXor .u8 a (fShR 32 m q)) (fShP 32 m q)), (fShR 32 m q)⟩ := by kernel_rfl
  unfold Flg; simp only [e1, e2]
  simp only [fShR, fShP, Int.reduceEq, if_true, if_false]
  refine ⟨by trivial, fun i hi hs => ?_, fun i hi hs => ?_⟩ <;> rcases i8 hi with rfl | rfl | rfl | rfl | rfl | rfl | rfl | rfl <;> simp only [b0_131, b1_131, b2_131, b3_131, b4_131, b5_131, b6_131, b7_131] at hs <;> first | (cases hs; done) | (simp only [nz0, nz1, nz2, nz3, nz4, nz5, nz6, nz7, pt0_1, pt1_1, pt2_1, pt3_1, pt4_1, pt5_1, pt6_1, pt7_1, pt0_2, pt1_2, pt2_2, pt3_2, pt4_2, pt5_2, pt6_2, pt7_2, pt0_4, pt1_4, pt2_4, pt3_4, pt4_4, pt5_4, pt6_4, pt7_4, pt0_8, pt1_8, pt2_8, pt3_8, pt4_8, pt5_8, pt6_8, pt7_8, pt0_64, pt1_64, pt2_64, pt3_64, pt4_64, pt5_64, pt6_64, pt7_64, pt0_128, pt1_128, pt2_128, pt3_128, pt4_128, pt5_128, pt6_128, pt7_128]; done) | trivial | rfl
theorem D69 (a x y s p q m : Int) (h : Agr 0 p q) : Flg (dO 69) 0 ⟨a, x, y, s, p, m⟩ q := by
  have e1 : dO 69 ⟨a, x, y, s, p, m⟩ = ⟨a, x, y, s, p, m⟩ := by kernel_rfl
  have e2 : dO 69 ⟨a, x, y, s, q, m⟩ = ⟨a, x, y, s, q, m⟩ := by kernel_rfl
  unfold Flg; simp only [e1, e2]
  refine ⟨by trivial, fun i hi hs => ?_, fun i hi hs => ?_⟩ <;> rcases i8 hi with rfl | rfl | rfl | rfl | rfl | rfl | rfl | rfl <;> simp only [b0_0, b1_0, b2_0, b3_0, b4_0, b5_0, b6_0, b7_0] at hs <;> first | (cases hs; done) | (simp only [nz0, nz1, nz2, nz3, nz4, nz5, nz6, nz7, pt0_1, pt1_1, pt2_1, pt3_1, pt4_1, pt5_1, pt6_1, pt7_1, pt0_2, pt1_2, pt2_2, pt3_2, pt4_2, pt5_2, pt6_2, pt7_2, pt0_4, pt1_4, pt2_4, pt3_4, pt4_4, pt5_4, pt6_4, pt7_4, pt0_8, pt1_8, pt2_8, pt3_8, pt4_8, pt5_8, pt6_8, pt7_8, pt0_64, pt1_64, pt2_64, pt3_64, pt4_64, pt5_64, pt6_64, pt7_64, pt0_128, pt1_128, pt2_128, pt3_128, pt4_128, pt5_128, pt6_128, pt7_128]; done) | trivial | rfl

theorem fr_do (op : Int) (r : Rg) (q : Int) (h : Agr (nd op) r.p q) : Flg (dO op) (st op) r q := by
  obtain ⟨a, x, y, s, p, m⟩ := r
  rcases int70 op with ⟨n, rfl⟩ | ⟨n, rfl⟩ | ⟨n, hn, rfl⟩
  · have e : ∀ p, dO (.negSucc n) ⟨a, x, y, s, p, m⟩ = ⟨a, x, y, s, p, m⟩ := fun p => by kernel_rfl
    have es : st (.negSucc n) = 0 := by kernel_rfl
    unfold Flg; simp only [e, es]
    refine ⟨trivial, fun i hi hs => ?_, fun i hi hs => ?_⟩ <;> rcases i8 hi with rfl | rfl | rfl | rfl | rfl | rfl | rfl | rfl <;> simp only [b0_0, b1_0, b2_0, b3_0, b4_0, b5_0, b6_0, b7_0] at hs <;> first | (cases hs; done) | trivial | rfl
  · have e : ∀ p, dO (.ofNat (n + 70)) ⟨a, x, y, s, p, m⟩ = ⟨a, x, y, s, p, m⟩ := fun p => by kernel_rfl
    have es : st (.ofNat (n + 70)) = 0 := by kernel_rfl
    unfold Flg; simp only [e, es]
    refine ⟨trivial, fun i hi hs => ?_, fun i hi hs => ?_⟩ <;> rcases i8 hi with rfl | rfl | rfl | rfl | rfl | rfl | rfl | rfl <;> simp only [b0_0, b1_0, b2_0, b3_0, b4_0, b5_0, b6_0, b7_0] at hs <;> first | (cases hs; done) | trivial | rfl
  · match n, hn with
    | 0, _ => exact (show st 0 = 195 by kernel_rfl) ▸ D0 a x y s p q m ((show nd 0 = 9 by kernel_rfl) ▸ h)
    | 1, _ => exact (show st 1 = 130 by kernel_rfl) ▸ D1 a x y s p q m ((show nd 1 = 0 by kernel_rfl) ▸ h)
    | 2, _ => exact (show st 2 = 131 by kernel_rfl) ▸ D2 a x y s p q m ((show nd 2 = 0 by kernel_rfl) ▸ h)
    | 3, _ => exact (show st 3 = 0 by kernel_rfl) ▸ D3 a x y s p q m ((show nd 3 = 1 by kernel_rfl) ▸ h)
    | 4, _ => exact (show st 4 = 0 by kernel_rfl) ▸ D4 a x y s p q m ((show nd 4 = 1 by kernel_rfl) ▸ h)
    | 5, _ => exact (show st 5 = 0 by kernel_rfl) ▸ D5 a x y s p q m ((show nd 5 = 2 by kernel_rfl) ▸ h)
    | 6, _ => exact (show st 6 = 194 by kernel_rfl) ▸ D6 a x y s p q m ((show nd 6 = 0 by kernel_rfl) ▸ h)
    | 7, _ => exact (show st 7 = 0 by kernel_rfl) ▸ D7 a x y s p q m ((show nd 7 = 128 by kernel_rfl) ▸ h)
    | 8, _ => exact (show st 8 = 0 by kernel_rfl) ▸ D8 a x y s p q m ((show nd 8 = 2 by kernel_rfl) ▸ h)
    | 9, _ => exact (show st 9 = 0 by kernel_rfl) ▸ D9 a x y s p q m ((show nd 9 = 128 by kernel_rfl) ▸ h)
    | 10, _ => exact (show st 10 = 4 by kernel_rfl) ▸ D10 a x y s p q m ((show nd 10 = 207 by kernel_rfl) ▸ h)
    | 11, _ => exact (show st 11 = 0 by kernel_rfl) ▸ D11 a x y s p q m ((show nd 11 = 64 by kernel_rfl) ▸ h)
    | 12, _ => exact (show st 12 = 0 by kernel_rfl) ▸ D12 a x y s p q m ((show nd 12 = 64 by kernel_rfl) ▸ h)
    | 13, _ => exact (show st 13 = 1 by kernel_rfl) ▸ D13 a x y s p q m ((show nd 13 = 0 by kernel_rfl) ▸ h)
    | 14, _ => exact (show st 14 = 8 by kernel_rfl) ▸ D14 a x y s p q m ((show nd 14 = 0 by kernel_rfl) ▸ h)
    | 15, _ => exact (show st 15 = 4 by kernel_rfl) ▸ D15 a x y s p q m ((show nd 15 = 0 by kernel_rfl) ▸ h)
    | 16, _ => exact (show st 16 = 64 by kernel_rfl) ▸ D16 a x y s p q m ((show nd 16 = 0 by kernel_rfl) ▸ h)
    | 17, _ => exact (show st 17 = 131 by kernel_rfl) ▸ D17 a x y s p q m ((show nd 17 = 0 by kernel_rfl) ▸ h)
    | 18, _ => exact (show st 18 = 131 by kernel_rfl) ▸ D18 a x y s p q m ((show nd 18 = 0 by kernel_rfl) ▸ h)
    | 19, _ => exact (show st 19 = 131 by kernel_rfl) ▸ D19 a x y s p q m ((show nd 19 = 0 by kernel_rfl) ▸ h)
    | 20, _ => exact (show st 20 = 130 by kernel_rfl) ▸ D20 a x y s p q m ((show nd 20 = 0 by kernel_rfl) ▸ h)
    | 21, _ => exact (show st 21 = 130 by kernel_rfl) ▸ D21 a x y s p q m ((show nd 21 = 0 by kernel_rfl) ▸ h)
    | 22, _ => exact (show st 22 = 130 by kernel_rfl) ▸ D22 a x y s p q m ((show nd 22 = 0 by kernel_rfl) ▸ h)
    | 23, _ => exact (show st 23 = 130 by kernel_rfl) ▸ D23 a x y s p q m ((show nd 23 = 0 by kernel_rfl) ▸ h)
    | 24, _ => exact (show st 24 = 130 by kernel_rfl) ▸ D24 a x y s p q m ((show nd 24 = 0 by kernel_rfl) ▸ h)
    | 25, _ => exact (show st 25 = 130 by kernel_rfl) ▸ D25 a x y s p q m ((show nd 25 = 0 by kernel_rfl) ▸ h)
    | 26, _ => exact (show st 26 = 130 by kernel_rfl) ▸ D26 a x y s p q m ((show nd 26 = 0 by kernel_rfl) ▸ h)
    | 27, _ => exact (show st 27 = 0 by kernel_rfl) ▸ D27 a x y s p q m ((show nd 27 = 0 by kernel_rfl) ▸ h)
    | 28, _ => exact (show st 28 = 0 by kernel_rfl) ▸ D28 a x y s p q m ((show nd 28 = 0 by kernel_rfl) ▸ h)
    | 29, _ => exact (show st 29 = 130 by kernel_rfl) ▸ D29 a x y s p q m ((show nd 29 = 0 by kernel_rfl) ▸ h)
    | 30, _ => exact (show st 30 = 130 by kernel_rfl) ▸ D30 a x y s p q m ((show nd 30 = 0 by kernel_rfl) ▸ h)
    | 31, _ => exact (show st 31 = 130 by kernel_rfl) ▸ D31 a x y s p q m ((show nd 31 = 0 by kernel_rfl) ▸ h)
    | 32, _ => exact (show st 32 = 131 by kernel_rfl) ▸ D32 a x y s p q m ((show nd 32 = 0 by kernel_rfl) ▸ h)
    | 33, _ => exact (show st 33 = 0 by kernel_rfl) ▸ D33 a x y s p q m ((show nd 33 = 0 by kernel_rfl) ▸ h)
    | 34, _ => exact (show st 34 = 130 by kernel_rfl) ▸ D34 a x y s p q m ((show nd 34 = 0 by kernel_rfl) ▸ h)
    | 35, _ => exact (show st 35 = 0 by kernel_rfl) ▸ D35 a x y s p q m ((show nd 35 = 0 by kernel_rfl) ▸ h)
    | 36, _ => exact (show st 36 = 0 by kernel_rfl) ▸ D36 a x y s p q m ((show nd 36 = 207 by kernel_rfl) ▸ h)
    | 37, _ => exact (show st 37 = 130 by kernel_rfl) ▸ D37 a x y s p q m ((show nd 37 = 0 by kernel_rfl) ▸ h)
    | 38, _ => exact (show st 38 = 255 by kernel_rfl) ▸ D38 a x y s p q m ((show nd 38 = 0 by kernel_rfl) ▸ h)
    | 39, _ => exact (show st 39 = 131 by kernel_rfl) ▸ D39 a x y s p q m ((show nd 39 = 1 by kernel_rfl) ▸ h)
    | 40, _ => exact (show st 40 = 131 by kernel_rfl) ▸ D40 a x y s p q m ((show nd 40 = 1 by kernel_rfl) ▸ h)
    | 41, _ => exact (show st 41 = 255 by kernel_rfl) ▸ D41 a x y s p q m ((show nd 41 = 0 by kernel_rfl) ▸ h)
    | 42, _ => exact (show st 42 = 0 by kernel_rfl) ▸ D42 a x y s p q m ((show nd 42 = 0 by kernel_rfl) ▸ h)
    | 43, _ => exact (show st 43 = 195 by kernel_rfl) ▸ D43 a x y s p q m ((show nd 43 = 9 by kernel_rfl) ▸ h)
    | 44, _ => exact (show st 44 = 1 by kernel_rfl) ▸ D44 a x y s p q m ((show nd 44 = 0 by kernel_rfl) ▸ h)
    | 45, _ => exact (show st 45 = 8 by kernel_rfl) ▸ D45 a x y s p q m ((show nd 45 = 0 by kernel_rfl) ▸ h)
    | 46, _ => exact (show st 46 = 4 by kernel_rfl) ▸ D46 a x y s p q m ((show nd 46 = 0 by kernel_rfl) ▸ h)
    | 47, _ => exact (show st 47 = 0 by kernel_rfl) ▸ D47 a x y s p q m ((show nd 47 = 0 by kernel_rfl) ▸ h)
    | 48, _ => exact (show st 48 = 0 by kernel_rfl) ▸ D48 a x y s p q m ((show nd 48 = 0 by kernel_rfl) ▸ h)
    | 49, _ => exact (show st 49 = 0 by kernel_rfl) ▸ D49 a x y s p q m ((show nd 49 = 0 by kernel_rfl) ▸ h)
    | 50, _ => exact (show st 50 = 130 by kernel_rfl) ▸ D50 a x y s p q m ((show nd 50 = 0 by kernel_rfl) ▸ h)
    | 51, _ => exact (show st 51 = 130 by kernel_rfl) ▸ D51 a x y s p q m ((show nd 51 = 0 by kernel_rfl) ▸ h)
    | 52, _ => exact (show st 52 = 130 by kernel_rfl) ▸ D52 a x y s p q m ((show nd 52 = 0 by kernel_rfl) ▸ h)
    | 53, _ => exact (show st 53 = 130 by kernel_rfl) ▸ D53 a x y s p q m ((show nd 53 = 0 by kernel_rfl) ▸ h)
    | 54, _ => exact (show st 54 = 0 by kernel_rfl) ▸ D54 a x y s p q m ((show nd 54 = 0 by kernel_rfl) ▸ h)
    | 55, _ => exact (show st 55 = 130 by kernel_rfl) ▸ D55 a x y s p q m ((show nd 55 = 0 by kernel_rfl) ▸ h)
    | 56, _ => exact (show st 56 = 131 by kernel_rfl) ▸ D56 a x y s p q m ((show nd 56 = 0 by kernel_rfl) ▸ h)
    | 57, _ => exact (show st 57 = 131 by kernel_rfl) ▸ D57 a x y s p q m ((show nd 57 = 0 by kernel_rfl) ▸ h)
    | 58, _ => exact (show st 58 = 195 by kernel_rfl) ▸ D58 a x y s p q m ((show nd 58 = 9 by kernel_rfl) ▸ h)
    | 59, _ => exact (show st 59 = 131 by kernel_rfl) ▸ D59 a x y s p q m ((show nd 59 = 0 by kernel_rfl) ▸ h)
    | 60, _ => exact (show st 60 = 195 by kernel_rfl) ▸ D60 a x y s p q m ((show nd 60 = 9 by kernel_rfl) ▸ h)
    | 61, _ => exact (show st 61 = 130 by kernel_rfl) ▸ D61 a x y s p q m ((show nd 61 = 0 by kernel_rfl) ▸ h)
    | 62, _ => exact (show st 62 = 130 by kernel_rfl) ▸ D62 a x y s p q m ((show nd 62 = 0 by kernel_rfl) ▸ h)
    | 63, _ => exact (show st 63 = 131 by kernel_rfl) ▸ D63 a x y s p q m ((show nd 63 = 1 by kernel_rfl) ▸ h)
    | 64, _ => exact (show st 64 = 195 by kernel_rfl) ▸ D64 a x y s p q m ((show nd 64 = 9 by kernel_rfl) ▸ h)
    | 65, _ => exact (show st 65 = 0 by kernel_rfl) ▸ D65 a x y s p q m ((show nd 65 = 0 by kernel_rfl) ▸ h)
    | 66, _ => exact (show st 66 = 131 by kernel_rfl) ▸ D66 a x y s p q m ((show nd 66 = 0 by kernel_rfl) ▸ h)
    | 67, _ => exact (show st 67 = 131 by kernel_rfl) ▸ D67 a x y s p q m ((show nd 67 = 0 by kernel_rfl) ▸ h)
    | 68, _ => exact (show st 68 = 131 by kernel_rfl) ▸ D68 a x y s p q m ((show nd 68 = 0 by kernel_rfl) ▸ h)
    | 69, _ => exact (show st 69 = 0 by kernel_rfl) ▸ D69 a x y s p q m ((show nd 69 = 0 by kernel_rfl) ▸ h)
    | n + 70, h => omega
end Ev

namespace Ev
open Go

/-! ## AluFreed: the law, as a tree, and that it answers true -/
def eqR (u v : Rg) : Bool := u.a == v.a && (u.x == v.x && (u.y == v.y && (u.s == v.s && (u.p == v.p && u.m == v.m))))
/-- with another flag -/
def flipP (r : Rg) (f : Int) : Rg := ⟨r.a, r.x, r.y, r.s, bXor .u8 r.p f, r.m⟩

def freedA {β : Type} (op : Int) (r : Rg) (f : Int) (K : Bool → β) : β :=
  cond (op != 2) (cond (op != 32) (cond (op != 39) (cond (op != 40) (K (eqR (aC op r) (flipP (aC op (flipP r f)) f))) (S op r f K)) (S op r f K)) (S op r f K)) (S op r f K)
where
  S {β : Type} (op : Int) (r : Rg) (f : Int) (K : Bool → β) : β := cond (!(bAnd .u8 (st op) f != 0)) (K (eqR (aC op r) (flipP (aC op (flipP r f)) f))) (K (eqR (aC op r) (aC op (flipP r f))))

def freedT {β : Type} (op : Int) (r : Rg) (f : Int) (K : Bool → β) : β :=
  cond (bAnd .u8 (nd op) f != 0) (K true) (cond (!(tk op r.p == tk op (bXor .u8 r.p f))) (K false)
    (cond (!(bAnd .u8 (st op) f != 0))
      (cond (!(eqR (dO op r) (flipP (dO op (flipP r f)) f))) (K false) (freedA op r f K))
      (cond (!(eqR (dO op r) (dO op (flipP r f)))) (K false) (freedA op r f K))))

theorem eqR_refl {u v : Rg} (h : u = v) : eqR u v = true := by subst h; simp [eqR]
theorem eqR_iff {u v : Rg} : eqR u v = true ↔ u = v := by
  constructor
  · intro h
    simp only [eqR, Bool.and_eq_true, beq_iff_eq] at h
    obtain ⟨h1, h2, h3, h4, h5, h6⟩ := h
    cases u; cases v; simp_all
  · exact eqR_refl

/-- a flag -/
def IsBit (k : Nat) (f : Int) : Prop := k < 8 ∧ ∀ i, i < 8 → bit i f = decide (i = k)

theorem bit_flip {k i : Nat} {f p : Int} (h : IsBit k f) (hi : i < 8) : bit i (bXor .u8 p f) = (bit i p ^^ decide (i = k)) := by rw [bit_xor, h.2 i hi]

theorem and_bit {k : Nat} {f x : Int} (h : IsBit k f) : (bAnd .u8 x f != 0) = bit k x := by
  have e := and_ne x k h.1
  rw [← e]
  congr 1
  exact byte_ext (U8_and _ _) (U8_and _ _) fun i hi => by
    rw [bit_and, bit_and, h.2 i hi]
    congr 1
    have hk := h.1
    rcases i8 hi with rfl | rfl | rfl | rfl | rfl | rfl | rfl | rfl <;> rcases i8 hk with rfl | rfl | rfl | rfl | rfl | rfl | rfl | rfl <;> (show _ = _; kernel_rfl)

theorem flip_flip {p f : Int} (hp : U8 p) : bXor .u8 (bXor .u8 p f) f = p :=
  byte_ext (U8_xor _ _) hp fun i hi => by rw [bit_xor, bit_xor]; cases bit i p <;> cases bit i f <;> rfl

theorem shl_bit {n : Int} (h0 : 0 ≤ n) (h : n < 8) : ∃ k, IsBit k (iShl .u8 1 n) := by
  obtain ⟨k, rfl⟩ := Int.eq_ofNat_of_zero_le h0
  have hk : k < 8 := by omega
  refine ⟨k, hk, fun i hi => ?_⟩
  rcases i8 hi with rfl | rfl | rfl | rfl | rfl | rfl | rfl | rfl <;> rcases i8 hk with rfl | rfl | rfl | rfl | rfl | rfl | rfl | rfl <;> (show _ = _; kernel_rfl)

theorem cond_U8 {b : Bool} {x y : Rg} (hx : U8 x.p) (hy : U8 y.p) : U8 (cond b x y).p := by cases b <;> assumption

theorem U8_of_keep {p : Int} (h : U8 p) : U8 p := h
theorem U8_two {b : Bool} {x y : Int × Int} (hx : U8 x.2) (hy : U8 y.2) : U8 (cond b x y).2 := by cases b <;> assumption
theorem U8_adc (a m p : Int) : U8 (fAdc a m p).2 := by
  unfold fAdc
  exact U8_two (U8_fNz _ _) (U8_two (U8_two (U8_fPut _ _ _) (U8_fPut _ _ _)) (U8_two (U8_fPut _ _ _) (U8_fPut _ _ _)))
theorem U8_sbc (a m p : Int) : U8 (fSbc a m p).2 := U8_fNz _ _
theorem U8_arr (a m p : Int) : U8 (fArr a m p).2 := by
  unfold fArr
  exact U8_two (U8_fPut _ _ _) (U8_two (U8_two (U8_fPut _ _ _) (U8_fPut _ _ _)) (U8_two (U8_fPut _ _ _) (U8_fPut _ _ _)))

/-- the flags behind an operation are a byte -/
theorem U8_dO (op : Int) (r : Rg) (h : U8 r.p) : U8 (dO op r).p := by
  obtain ⟨a, x, y, s, p, m⟩ := r
  have h : U8 p := h
  unfold dO
  repeat' (first | exact U8_fPut _ _ _ | exact U8_andNot _ _ | apply cond_U8 | exact h | exact U8_fNz _ _ | exact U8_adc _ _ _ | exact U8_sbc _ _ _ | exact U8_arr _ _ _ | exact U8_or _ _)
theorem U8_aC (op : Int) (r : Rg) (h : U8 r.p) : U8 (aC op r).p := by
  obtain ⟨a, x, y, s, p, m⟩ := r
  have h : U8 p := h
  unfold aC
  repeat' (first | apply cond_U8 | exact h | exact U8_fNz _ _)

/-- Acc likewise -/
theorem fr_ac (op : Int) (r : Rg) (q : Int) (h : Agr (nd op) r.p q) (ho : op = 2 ∨ op = 32 ∨ op = 39 ∨ op = 40) : Flg (aC op) (st op) r q := by
  obtain ⟨a, x, y, s, p, m⟩ := r
  -- the same as Do with A for M
  have key : ∀ p, aC op ⟨a, x, y, s, p, m⟩ = ⟨(dO op ⟨a, x, y, s, p, a⟩).m, x, y, s, (dO op ⟨a, x, y, s, p, a⟩).p, m⟩ := fun p => by
    rcases ho with rfl | rfl | rfl | rfl <;> kernel_rfl
  obtain ⟨h1, h2, h3⟩ := fr_do op ⟨a, x, y, s, p, a⟩ q h
  unfold Flg
  simp only [key]
  refine ⟨?_, h2, h3⟩
  have hm := congrArg Rg.m h1
  simp only at hm
  rw [hm]

theorem fr_ac_no (op : Int) (r : Rg) (h : ¬ (op = 2 ∨ op = 32 ∨ op = 39 ∨ op = 40)) : aC op r = r := by
  obtain ⟨a, x, y, s, p, m⟩ := r
  unfold aC
  have h1 : (op == 2) = false := by simp; omega
  have h2 : (op == 32) = false := by simp; omega
  have h3 : (op == 39) = false := by simp; omega
  have h4 : (op == 40) = false := by simp; omega
  rw [h1, h2, h3, h4]; rfl

theorem tk_flag (op p q : Int) (h : Agr (nd op) p q) : tk op p = tk op q := by
  have e : ∀ n : Nat, n < 70 → Agr (nd n) p q → tk n p = tk n q := by
    intro n hn h
    have hh : ∀ k, k < 8 → bit k (nd n) = true → bit k p = bit k q := h
    match n, hn with
    | 3, _ => show ((bAnd .u8 p 1 != 0) == false) = ((bAnd .u8 q 1 != 0) == false); rw [and1, and1, hh 0 (by omega) (by kernel_rfl)]
    | 4, _ => show ((bAnd .u8 p 1 != 0) == true) = ((bAnd .u8 q 1 != 0) == true); rw [and1, and1, hh 0 (by omega) (by kernel_rfl)]
    | 5, _ => show ((bAnd .u8 p 2 != 0) == true) = ((bAnd .u8 q 2 != 0) == true); rw [and2, and2, hh 1 (by omega) (by kernel_rfl)]
    | 7, _ => show ((bAnd .u8 p 128 != 0) == true) = ((bAnd .u8 q 128 != 0) == true); rw [and128, and128, hh 7 (by omega) (by kernel_rfl)]
    | 8, _ => show ((bAnd .u8 p 2 != 0) == false) = ((bAnd .u8 q 2 != 0) == false); rw [and2, and2, hh 1 (by omega) (by kernel_rfl)]
    | 9, _ => show ((bAnd .u8 p 128 != 0) == false) = ((bAnd .u8 q 128 != 0) == false); rw [and128, and128, hh 7 (by omega) (by kernel_rfl)]
    | 11, _ => show ((bAnd .u8 p 64 != 0) == false) = ((bAnd .u8 q 64 != 0) == false); rw [show (bAnd .u8 p 64 != 0) = bit 6 p from and_ne p 6 (by omega), show (bAnd .u8 q 64 != 0) = bit 6 q from and_ne q 6 (by omega), hh 6 (by omega) (by kernel_rfl)]
    | 12, _ => show ((bAnd .u8 p 64 != 0) == true) = ((bAnd .u8 q 64 != 0) == true); rw [show (bAnd .u8 p 64 != 0) = bit 6 p from and_ne p 6 (by omega), show (bAnd .u8 q 64 != 0) = bit 6 q from and_ne q 6 (by omega), hh 6 (by omega) (by kernel_rfl)]
    | 0, _ | 1, _ | 2, _ | 6, _ | 10, _ | 13, _ | 14, _ | 15, _ | 16, _ | 17, _ | 18, _ | 19, _ | 20, _ | 21, _ | 22, _ | 23, _ | 24, _ | 25, _ | 26, _ | 27, _ | 28, _ | 29, _ | 30, _ | 31, _ | 32, _ | 33, _ | 34, _ | 35, _ | 36, _ | 37, _ | 38, _ | 39, _ | 40, _ | 41, _ | 42, _ | 43, _ | 44, _ | 45, _ | 46, _ | 47, _ | 48, _ | 49, _ | 50, _ | 51, _ | 52, _ | 53, _ | 54, _ | 55, _ | 56, _ | 57, _ | 58, _ | 59, _ | 60, _ | 61, _ | 62, _ | 63, _ | 64, _ | 65, _ | 66, _ | 67, _ | 68, _ | 69, _ => show _ = _; kernel_rfl
    | n + 70, h => omega
  rcases int70 op with ⟨n, rfl⟩ | ⟨n, rfl⟩ | ⟨n, hn, rfl⟩
  · show _ = _; kernel_rfl
  · show _ = _; kernel_rfl
  · exact e n hn h

/-- a flag that isn't needed -/
theorem agr_flip {k : Nat} {f n p : Int} (hf : IsBit k f) (hn : (bAnd .u8 n f != 0) = false) : Agr n p (bXor .u8 p f) := fun i hi hb => by
  rw [bit_flip hf hi]
  by_cases hik : i = k
  · subst hik
    rw [and_bit hf, hb] at hn; cases hn
  · simp [hik]

/-- what Flg says of a flipped flag -/
theorem flg_flip {g : Rg → Rg} {s f : Int} {k : Nat} {r : Rg} (hf : IsBit k f) (h : Flg g s r (bXor .u8 r.p f)) (h2 : Flg g s (flipP r f) (bXor .u8 r.p f)) (hu : U8 (g r).p) (hu2 : U8 (g (flipP r f)).p) :
    ((bAnd .u8 s f != 0) = true → g r = g (flipP r f)) ∧ ((bAnd .u8 s f != 0) = false → g r = flipP (g (flipP r f)) f) := by
  obtain ⟨c1, c2, c3⟩ := h
  obtain ⟨_, _, d3⟩ := h2
  have ef : ({ r with p := bXor .u8 r.p f } : Rg) = flipP r f := rfl
  rw [ef] at c1 c2
  have hbit : ∀ i, i < 8 → bit i (g (flipP r f)).p = if bit i s then bit i (g r).p else (bit i (g r).p ^^ decide (i = k)) := fun i hi => by
    cases hs : bit i s with
    | true => rw [c2 i hi hs]; rfl
    | false =>
      rw [d3 i hi hs, c3 i hi hs]
      show bit i (bXor .u8 r.p f) = _
      rw [bit_flip hf hi]; rfl
  refine ⟨fun hs => ?_, fun hs => ?_⟩
  · rw [c1]
    have : (g (flipP r f)).p = (g r).p := byte_ext hu2 hu fun i hi => by
      rw [hbit i hi]
      cases hsi : bit i s with
      | true => rfl
      | false =>
        have : i ≠ k := fun e => by subst e; rw [and_bit hf, hsi] at hs; cases hs
        simp [this]
    rw [this]
  · rw [c1]
    have : (g r).p = bXor .u8 (g (flipP r f)).p f := byte_ext hu (U8_xor _ _) fun i hi => by
      rw [bit_flip hf hi, hbit i hi]
      cases hsi : bit i s with
      | true =>
        have : i ≠ k := fun e => by subst e; rw [and_bit hf, hsi] at hs; cases hs
        simp [this]
      | false => cases bit i (g r).p <;> cases decide (i = k) <;> rfl
    show g r = ⟨(g r).a, (g r).x, (g r).y, (g r).s, bXor .u8 (g (flipP r f)).p f, (g r).m⟩
    rw [← this]

theorem freedT_true {β : Type} {op : Int} {r : Rg} {f : Int} {k : Nat} (K : Bool → β) (hr : U8 r.p) (hf : IsBit k f) : freedT op r f K = K true := by
  unfold freedT
  cases hn : (bAnd .u8 (nd op) f != 0) with
  | true => rfl
  | false =>
    have ag := agr_flip (p := r.p) hf hn
    have ht := tk_flag op _ _ ag
    have hfl : U8 (flipP r f).p := U8_xor _ _
    have refl : ∀ q, Agr (nd op) q q := fun q i _ _ => rfl
    obtain ⟨d1, d2⟩ := flg_flip hf (fr_do op r _ ag) (fr_do op (flipP r f) _ (refl _)) (U8_dO op r hr) (U8_dO op _ hfl)
    have hA : freedA op r f K = K true := by
      unfold freedA
      by_cases ho : op = 2 ∨ op = 32 ∨ op = 39 ∨ op = 40
      · obtain ⟨a1, a2⟩ := flg_flip hf (fr_ac op r _ ag ho) (fr_ac op (flipP r f) _ (refl _) ho) (U8_aC op r hr) (U8_aC op _ hfl)
        have hS : freedA.S op r f K = K true := by
          unfold freedA.S
          cases hs : (bAnd .u8 (st op) f != 0) with
          | true => simp only [Bool.not_true, cond_false]; rw [eqR_refl (a1 hs)]
          | false => simp only [Bool.not_false, cond_true]; rw [eqR_refl (a2 hs)]
        rw [hS]
        rcases ho with rfl | rfl | rfl | rfl <;> rfl
      · have e := fr_ac_no op r ho
        have e' := fr_ac_no op (flipP r f) ho
        have h1 : (op != 2) = true := by simp [bne]; omega
        have h2 : (op != 32) = true := by simp [bne]; omega
        have h3 : (op != 39) = true := by simp [bne]; omega
        have h4 : (op != 40) = true := by simp [bne]; omega
        rw [h1, h2, h3, h4, e, e']
        simp only [cond_true]
        rw [eqR_refl]
        cases r
        simp only [flipP]
        rw [flip_flip hr]
    rw [ht, hA]
    simp only [beq_self_eq_true, Bool.not_true, cond_false]
    cases hs : (bAnd .u8 (st op) f != 0) with
    | true => simp only [Bool.not_true, cond_false]; rw [eqR_refl (d1 hs)]; rfl
    | false => simp only [Bool.not_false, cond_true]; rw [eqR_refl (d2 hs)]; rfl
end Ev
