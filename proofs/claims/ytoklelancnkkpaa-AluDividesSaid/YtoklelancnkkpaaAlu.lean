/-
  What the functions of alu compute, in whole numbers, and that eight rounds of shift and add make the product of two bytes, sixteen of the restoring division quotient and rest. No program in sight.
-/
import Derived.Test.YtoklelancnkkpaaEvD
set_option autoImplicit false
set_option linter.unusedVariables false
namespace Ev
open Go

/-! ## alu: what its functions compute -/
abbrev u8 (n : Int) : AV := .ac (.one (.val (.int .u8 n)))
abbrev i64 (n : Int) : AV := .ac (.one (.val (.int .i64 n)))
abbrev boo (b : Bool) : AV := .ac (.one (.val (.bool b)))
abbrev aluV (a x y s p m : Int) : AV := .ac (.agg [.c (.val (.int .u8 a)), .c (.val (.int .u8 x)), .c (.val (.int .u8 y)), .c (.val (.int .u8 s)), .c (.val (.int .u8 p)), .c (.val (.int .u8 m))])

def fNz (r p : Int) : Int := cond (r == 0) (bOr .u8 (bOr .u8 (bAndNot .u8 p 130) 2) (bAnd .u8 r 128)) (bOr .u8 (bAndNot .u8 p 130) (bAnd .u8 r 128))
def fPut (p flag : Int) (s : Bool) : Int := cond s (bOr .u8 p flag) (bAndNot .u8 p flag)

def sNz : List AV → Option AV
  | [.ac (.one (.val (.int .u8 r))), .ac (.one (.val (.int .u8 p)))] => some (u8 (fNz r p))
  | _ => none
def sPut : List AV → Option AV
  | [.ac (.one (.val (.int .u8 p))), .ac (.one (.val (.int .u8 f))), .ac (.one (.val (.bool s)))] => some (u8 (fPut p f s))
  | _ => none
end Ev
namespace Ev
open Go
def fSum (a m p : Int) : Int := IntKind.i64.wrap (IntKind.i64.wrap (IntKind.i64.wrap a + IntKind.i64.wrap m) + IntKind.i64.wrap (bAnd .u8 p 1))
def tup2 (r q : Int) : AV := .tup [.one (.val (.int .u8 r)), .one (.val (.int .u8 q))]
/-- Adc: binary; decimal, with the low digits' sum l and the sum s put right -/
def adcB (a m p : Int) : Int × Int :=
  (IntKind.u8.wrap (fSum a m p), fNz (IntKind.u8.wrap (fSum a m p)) (fPut (fPut p 1 (iLt 255 (fSum a m p))) 64 (bAnd .u8 (bAnd .u8 (bXor .u8 a (IntKind.u8.wrap (fSum a m p))) (bXor .u8 m (IntKind.u8.wrap (fSum a m p)))) 128 != 0)))
def adcL (a m p : Int) : Int := IntKind.i64.wrap (IntKind.i64.wrap (IntKind.i64.wrap (bAnd .u8 a 15) + IntKind.i64.wrap (bAnd .u8 m 15)) + IntKind.i64.wrap (bAnd .u8 p 1))
def adcH (l : Int) : Int := IntKind.i64.wrap (bAnd .i64 (IntKind.i64.wrap (l + 6)) 15 + 16)
def adcS (a m l : Int) : Int := IntKind.i64.wrap (IntKind.i64.wrap (IntKind.i64.wrap (bAnd .u8 a 240) + IntKind.i64.wrap (bAnd .u8 m 240)) + l)
def adcD (a m p s t : Int) : Int × Int :=
  (IntKind.u8.wrap t, fPut (fPut (fPut (fNz (IntKind.u8.wrap s) p) 64 (bAnd .u8 (bAnd .u8 (bXor .u8 a (IntKind.u8.wrap s)) (bXor .u8 m (IntKind.u8.wrap s))) 128 != 0)) 2 (IntKind.u8.wrap (fSum a m p) == 0)) 1 (iLt 255 t))
def adcT (s : Int) : Int := IntKind.i64.wrap (s + 96)
def fAdc (a m p : Int) : Int × Int :=
  cond (bAnd .u8 p 8 == 0) (adcB a m p)
    (cond (iLt 9 (adcL a m p))
      (cond (iLe 160 (adcS a m (adcH (adcL a m p)))) (adcD a m p (adcS a m (adcH (adcL a m p))) (adcT (adcS a m (adcH (adcL a m p))))) (adcD a m p (adcS a m (adcH (adcL a m p))) (adcS a m (adcH (adcL a m p)))))
      (cond (iLe 160 (adcS a m (adcL a m p))) (adcD a m p (adcS a m (adcL a m p)) (adcT (adcS a m (adcL a m p)))) (adcD a m p (adcS a m (adcL a m p)) (adcS a m (adcL a m p)))))
def sAdc : List AV → Option AV
  | [.ac (.one (.val (.int .u8 a))), .ac (.one (.val (.int .u8 m))), .ac (.one (.val (.int .u8 p)))] => some (tup2 (fAdc a m p).1 (fAdc a m p).2)
  | _ => none

def sbcW (p : Int) : Int := IntKind.i64.wrap (1 - IntKind.i64.wrap (bAnd .u8 p 1))
def fDif (a m p : Int) : Int := IntKind.i64.wrap (IntKind.i64.wrap (IntKind.i64.wrap a - IntKind.i64.wrap m) - sbcW p)
def sbcP (a m p : Int) : Int := fNz (IntKind.u8.wrap (fDif a m p)) (fPut (fPut p 1 (iLe 0 (fDif a m p))) 64 (bAnd .u8 (bAnd .u8 (bXor .u8 a m) (bXor .u8 a (IntKind.u8.wrap (fDif a m p)))) 128 != 0))
def sbcL (a m p : Int) : Int := IntKind.i64.wrap (IntKind.i64.wrap (IntKind.i64.wrap (bAnd .u8 a 15) - IntKind.i64.wrap (bAnd .u8 m 15)) - sbcW p)
def sbcH (l : Int) : Int := IntKind.i64.wrap (bAnd .i64 (IntKind.i64.wrap (l - 6)) 15 - 16)
def sbcS (a m l : Int) : Int := IntKind.i64.wrap (IntKind.i64.wrap (IntKind.i64.wrap (bAnd .u8 a 240) - IntKind.i64.wrap (bAnd .u8 m 240)) + l)
def sbcT (s : Int) : Int := IntKind.i64.wrap (s - 96)
def sbcR (a m p : Int) : Int :=
  cond (bAnd .u8 p 8 == 0) (IntKind.u8.wrap (fDif a m p))
    (cond (iLt (sbcL a m p) 0)
      (cond (iLt (sbcS a m (sbcH (sbcL a m p))) 0) (IntKind.u8.wrap (sbcT (sbcS a m (sbcH (sbcL a m p))))) (IntKind.u8.wrap (sbcS a m (sbcH (sbcL a m p)))))
      (cond (iLt (sbcS a m (sbcL a m p)) 0) (IntKind.u8.wrap (sbcT (sbcS a m (sbcL a m p)))) (IntKind.u8.wrap (sbcS a m (sbcL a m p)))))
def fSbc (a m p : Int) : Int × Int := (sbcR a m p, sbcP a m p)
def sSbc : List AV → Option AV
  | [.ac (.one (.val (.int .u8 a))), .ac (.one (.val (.int .u8 m))), .ac (.one (.val (.int .u8 p)))] => some (tup2 (fSbc a m p).1 (fSbc a m p).2)
  | _ => none

def arrR (a m p : Int) : Int := bOr .u8 (iShr .u8 (bAnd .u8 a m) 1) (iShl .u8 (bAnd .u8 p 1) 7)
def arrB (a m p : Int) : Int := fPut (fPut (fNz (arrR a m p) p) 1 (bAnd .u8 (arrR a m p) 64 != 0)) 64 (bAnd .u8 (bXor .u8 (arrR a m p) (iShl .u8 (arrR a m p) 1)) 64 != 0)
def arrQ (a m p : Int) : Int := fPut (fNz (arrR a m p) p) 64 (bAnd .u8 (bXor .u8 (bAnd .u8 a m) (arrR a m p)) 64 != 0)
def arrL (a m : Int) : Bool := iLt 5 (IntKind.i64.wrap (IntKind.i64.wrap (bAnd .u8 (bAnd .u8 a m) 15) + IntKind.i64.wrap (bAnd .u8 (bAnd .u8 a m) 1)))
def arrH (a m : Int) : Bool := iLt 80 (IntKind.i64.wrap (IntKind.i64.wrap (bAnd .u8 (bAnd .u8 a m) 240) + IntKind.i64.wrap (bAnd .u8 (bAnd .u8 a m) 16)))
def arrO (r : Int) : Int := bOr .u8 (bAnd .u8 r 240) (bAnd .u8 (IntKind.u8.wrap (r + 6)) 15)
def fArr (a m p : Int) : Int × Int :=
  cond (bAnd .u8 p 8 == 0) (arrR a m p, arrB a m p)
    (cond (arrL a m)
      (cond (arrH a m) (IntKind.u8.wrap (arrO (arrR a m p) + 96), fPut (arrQ a m p) 1 (arrH a m)) (arrO (arrR a m p), fPut (arrQ a m p) 1 (arrH a m)))
      (cond (arrH a m) (IntKind.u8.wrap (arrR a m p + 96), fPut (arrQ a m p) 1 (arrH a m)) (arrR a m p, fPut (arrQ a m p) 1 (arrH a m))))
def sArr : List AV → Option AV
  | [.ac (.one (.val (.int .u8 a))), .ac (.one (.val (.int .u8 m))), .ac (.one (.val (.int .u8 p)))] => some (tup2 (fArr a m p).1 (fArr a m p).2)
  | _ => none

/-- shifts: ASL 2, LSR 32, ROL 39, ROR 40 -/
def fShR (op m p : Int) : Int :=
  if op = 2 then iShl .u8 m 1 else if op = 32 then iShr .u8 m 1 else if op = 39 then bOr .u8 (iShl .u8 m 1) (bAnd .u8 p 1) else bOr .u8 (iShr .u8 m 1) (iShl .u8 (bAnd .u8 p 1) 7)
def fShP (op m p : Int) : Int := fNz (fShR op m p) (fPut p 1 (if op = 2 then bAnd .u8 m 128 != 0 else if op = 39 then bAnd .u8 m 128 != 0 else bAnd .u8 m 1 != 0))

def fCmp (r m p : Int) : Int := fNz (IntKind.u8.wrap (r - m)) (fPut p 1 (iLe m r))
def sCmp : List AV → Option AV
  | [.ac (.one (.val (.int .u8 r))), .ac (.one (.val (.int .u8 m))), .ac (.one (.val (.int .u8 p)))] => some (u8 (fCmp r m p))
  | _ => none
/-- Shift -/
def sShift : List AV → Option AV
  | [.ac (.one (.val (.int .i64 op))), .ac (.one (.val (.int .u8 m))), .ac (.one (.val (.int .u8 p)))] =>
    if op = 2 then some (tup2 (fShR 2 m p) (fShP 2 m p)) else if op = 32 then some (tup2 (fShR 32 m p) (fShP 32 m p)) else if op = 39 then some (tup2 (fShR 39 m p) (fShP 39 m p)) else if op = 40 then some (tup2 (fShR 40 m p) (fShP 40 m p)) else none
  | _ => none

/-- Do -/
def fDo (op a x y s p m : Int) : AV :=
  cond (op == 29) (aluV (m) x y s (fNz m p) m) (
  cond (op == 30) (aluV a (m) y s (fNz m p) m) (
  cond (op == 31) (aluV a x (m) s (fNz m p) m) (
  cond (op == 62) (aluV (m) (m) y s (fNz m (fNz m p)) m) (
  cond (op == 61) (aluV (bAnd .u8 s m) (bAnd .u8 s m) y (bAnd .u8 s m) (fNz (bAnd .u8 s m) p) m) (
  cond (op == 47) (aluV a x y s p (a)) (
  cond (op == 48) (aluV a x y s p (x)) (
  cond (op == 49) (aluV a x y s p (y)) (
  cond (op == 65) (aluV a x y s p (bAnd .u8 a x)) (
  cond (op == 50) (aluV a (a) y s (fNz a p) m) (
  cond (op == 51) (aluV a x (a) s (fNz a p) m) (
  cond (op == 53) (aluV (x) x y s (fNz x p) m) (
  cond (op == 55) (aluV (y) x y s (fNz y p) m) (
  cond (op == 52) (aluV a (s) y s (fNz s p) m) (
  cond (op == 54) (aluV a x y (x) p m) (
  cond (op == 1) (aluV (bAnd .u8 a m) x y s (fNz (bAnd .u8 a m) p) m) (
  cond (op == 34) (aluV (bOr .u8 a m) x y s (fNz (bOr .u8 a m) p) m) (
  cond (op == 23) (aluV (bXor .u8 a m) x y s (fNz (bXor .u8 a m) p) m) (
  cond (op == 6) (aluV a x y s (fPut (fPut (fPut p 2 (bAnd .u8 a m == 0)) 128 (bAnd .u8 m 128 != 0)) 64 (bAnd .u8 m 64 != 0)) m) (
  cond (op == 0) (aluV ((fAdc a m p).1) x y s ((fAdc a m p).2) m) (
  cond (op == 43) (aluV ((fSbc a m p).1) x y s ((fSbc a m p).2) m) (
  cond (op == 58) (aluV ((fArr a m p).1) x y s ((fArr a m p).2) m) (
  cond (op == 17) (aluV a x y s (fCmp a m p) m) (
  cond (op == 18) (aluV a x y s (fCmp x m p) m) (
  cond (op == 19) (aluV a x y s (fCmp y m p) m) (
  cond (op == 24) (aluV a x y s (fNz (IntKind.u8.wrap (m + 1)) p) (IntKind.u8.wrap (m + 1))) (
  cond (op == 20) (aluV a x y s (fNz (IntKind.u8.wrap (m + 255)) p) (IntKind.u8.wrap (m + 255))) (
  cond (op == 25) (aluV a (IntKind.u8.wrap (x + 1)) y s (fNz (IntKind.u8.wrap (x + 1)) p) m) (
  cond (op == 26) (aluV a x (IntKind.u8.wrap (y + 1)) s (fNz (IntKind.u8.wrap (y + 1)) p) m) (
  cond (op == 21) (aluV a (IntKind.u8.wrap (x + 255)) y s (fNz (IntKind.u8.wrap (x + 255)) p) m) (
  cond (op == 22) (aluV a x (IntKind.u8.wrap (y + 255)) s (fNz (IntKind.u8.wrap (y + 255)) p) m) (
  cond (op == 2) (aluV a x y s (fShP 2 m p) (fShR 2 m p)) (
  cond (op == 32) (aluV a x y s (fShP 32 m p) (fShR 32 m p)) (
  cond (op == 39) (aluV a x y s (fShP 39 m p) (fShR 39 m p)) (
  cond (op == 40) (aluV a x y s (fShP 40 m p) (fShR 40 m p)) (
  cond (op == 67) (aluV (bOr .u8 a (fShR 2 m p)) x y s (fNz (bOr .u8 a (fShR 2 m p)) (fShP 2 m p)) (fShR 2 m p)) (
  cond (op == 63) (aluV (bAnd .u8 a (fShR 39 m p)) x y s (fNz (bAnd .u8 a (fShR 39 m p)) (fShP 39 m p)) (fShR 39 m p)) (
  cond (op == 68) (aluV (bXor .u8 a (fShR 32 m p)) x y s (fNz (bXor .u8 a (fShR 32 m p)) (fShP 32 m p)) (fShR 32 m p)) (
  cond (op == 64) (aluV ((fAdc a (fShR 40 m p) (fShP 40 m p)).1) x y s ((fAdc a (fShR 40 m p) (fShP 40 m p)).2) (fShR 40 m p)) (
  cond (op == 59) (aluV a x y s (fCmp a (IntKind.u8.wrap (m - 1)) p) (IntKind.u8.wrap (m - 1))) (
  cond (op == 60) (aluV ((fSbc a (IntKind.u8.wrap (m + 1)) p).1) x y s ((fSbc a (IntKind.u8.wrap (m + 1)) p).2) (IntKind.u8.wrap (m + 1))) (
  cond (op == 57) (aluV (bAnd .u8 a m) x y s (fPut (fNz (bAnd .u8 a m) p) 1 (bAnd .u8 (bAnd .u8 a m) 128 != 0)) m) (
  cond (op == 56) (aluV (fShR 32 (bAnd .u8 a m) (fNz (bAnd .u8 a m) p)) x y s (fShP 32 (bAnd .u8 a m) (fNz (bAnd .u8 a m) p)) m) (
  cond (op == 66) (aluV a (IntKind.u8.wrap (bAnd .u8 a x - m)) y s (fCmp (bAnd .u8 a x) m p) m) (
  cond (op == 13) (aluV a x y s (fPut p 1 false) m) (
  cond (op == 14) (aluV a x y s (fPut p 8 false) m) (
  cond (op == 15) (aluV a x y s (fPut p 4 false) m) (
  cond (op == 16) (aluV a x y s (fPut p 64 false) m) (
  cond (op == 44) (aluV a x y s (fPut p 1 true) m) (
  cond (op == 45) (aluV a x y s (fPut p 8 true) m) (
  cond (op == 46) (aluV a x y s (fPut p 4 true) m) (
  cond (op == 35) (aluV a x y s p (a)) (
  cond (op == 36) (aluV a x y s p (bOr .u8 (bOr .u8 p 16) 32)) (
  cond (op == 37) (aluV (m) x y s (fNz m p) m) (
  cond (op == 38) (aluV a x y s (bOr .u8 (bAndNot .u8 m 16) 32) m) (
  cond (op == 41) (aluV a x y s (bOr .u8 (bAndNot .u8 m 16) 32) m) (
  cond (op == 10) (aluV a x y s (bOr .u8 p 4) (bOr .u8 (bOr .u8 p 16) 32)) (
  aluV a x y s p m)))))))))))))))))))))))))))))))))))))))))))))))))))))))))

def sDo : List AV → Option AV
  | [.ac (.one (.val (.int .i64 op))), .ac (.agg [.c (.val (.int .u8 a)), .c (.val (.int .u8 x)), .c (.val (.int .u8 y)), .c (.val (.int .u8 s)), .c (.val (.int .u8 p)), .c (.val (.int .u8 m))])] => some (fDo op a x y s p m)
  | _ => none
/-- do: an operand put into M ahead -/
def sDoM : List AV → Option AV
  | [.ac (.one (.val (.int .i64 op))), .ac (.agg [.c (.val (.int .u8 a)), .c (.val (.int .u8 x)), .c (.val (.int .u8 y)), .c (.val (.int .u8 s)), .c (.val (.int .u8 p)), .c (.val (.int .u8 _))]), .ac (.one (.val (.int .u8 m)))] => some (fDo op a x y s p m)
  | _ => none
/-- Acc -/
def fAcc (op a x y s p m : Int) : AV :=
  cond (op == 2) (aluV (fShR 2 a p) x y s (fShP 2 a p) m) (cond (op == 39) (aluV (fShR 39 a p) x y s (fShP 39 a p) m) (cond (op == 32) (aluV (fShR 32 a p) x y s (fShP 32 a p) m) (cond (op == 40) (aluV (fShR 40 a p) x y s (fShP 40 a p) m) (aluV a x y s p m))))
def sAcc : List AV → Option AV
  | [.ac (.one (.val (.int .i64 op))), .ac (.agg [.c (.val (.int .u8 a)), .c (.val (.int .u8 x)), .c (.val (.int .u8 y)), .c (.val (.int .u8 s)), .c (.val (.int .u8 p)), .c (.val (.int .u8 m))])] => some (fAcc op a x y s p m)
  | _ => none
/-- Taken, of BCC 3, BCS 4, BNE 8 -/
def sTaken : List AV → Option AV
  | [.ac (.one (.val (.int .i64 op))), .ac (.one (.val (.int .u8 p)))] =>
    if op = 4 then some (boo ((bAnd .u8 p 1 != 0) == true))
    else if op = 3 then some (boo ((bAnd .u8 p 1 != 0) == false))
    else if op = 8 then some (boo ((bAnd .u8 p 2 != 0) == false))
    else none
  | _ => none
end Ev

namespace Ev
open Go

abbrev B (x : Int) : BitVec 8 := BitVec.ofInt 8 x

theorem wrap8 (x : Int) : IntKind.u8.wrap x = x % 256 := by
  simp [IntKind.wrap, IntKind.bits, IntKind.signed]
theorem wrap8_lt {x : Int} (h0 : 0 ≤ x) (h : x < 256) : IntKind.u8.wrap x = x := by rw [wrap8]; omega
theorem wrap8_nat (v : BitVec 8) : IntKind.u8.wrap (v.toNat : Int) = (v.toNat : Int) := wrap8_lt (by omega) (by have := v.isLt; omega)
theorem B_nat (v : BitVec 8) : B (v.toNat : Int) = v := by
  unfold B; rw [BitVec.ofInt_natCast]; simp
theorem bAnd_eq (x y : Int) : bAnd .u8 x y = ((B x &&& B y).toNat : Int) := wrap8_nat _
theorem bOr_eq (x y : Int) : bOr .u8 x y = ((B x ||| B y).toNat : Int) := wrap8_nat _
theorem bXor_eq (x y : Int) : bXor .u8 x y = ((B x ^^^ B y).toNat : Int) := wrap8_nat _
theorem bAndNot_eq (x y : Int) : bAndNot .u8 x y = ((B x &&& ~~~ B y).toNat : Int) := wrap8_nat _
theorem B_and (x y : Int) : B (bAnd .u8 x y) = B x &&& B y := by rw [bAnd_eq, B_nat]
theorem B_or (x y : Int) : B (bOr .u8 x y) = B x ||| B y := by rw [bOr_eq, B_nat]
theorem B_xor (x y : Int) : B (bXor .u8 x y) = B x ^^^ B y := by rw [bXor_eq, B_nat]
theorem B_andNot (x y : Int) : B (bAndNot .u8 x y) = B x &&& ~~~ B y := by rw [bAndNot_eq, B_nat]

/-- a bit of a flag byte -/
def bit (i : Nat) (x : Int) : Bool := (B x).getLsbD i

theorem and_ne (x : Int) (i : Nat) (hi : i < 8) : (bAnd .u8 x (2 ^ i : Nat) != 0) = bit i x := by
  rw [bAnd_eq]
  unfold bit
  have hB : B ((2 ^ i : Nat) : Int) = BitVec.twoPow 8 i := by
    unfold B; rw [BitVec.ofInt_natCast]; apply BitVec.eq_of_toNat_eq; simp
  rw [hB]
  cases h : (B x).getLsbD i with
  | true =>
    have : B x &&& BitVec.twoPow 8 i ≠ 0#8 := fun h0 => by
      have := congrArg (fun v => BitVec.getLsbD v i) h0
      have h' : (B x)[i] = true := by rw [← BitVec.getLsbD_eq_getElem hi]; exact h
      simp [h', hi] at this
    have h2 : (B x &&& BitVec.twoPow 8 i).toNat ≠ 0 := fun h0 => this (BitVec.eq_of_toNat_eq (by simpa using h0))
    simp only [bne_iff_ne, ne_eq]
    omega
  | false =>
    have : B x &&& BitVec.twoPow 8 i = 0#8 := by
      apply BitVec.eq_of_getLsbD_eq
      intro j hj
      by_cases hij : i = j
      · subst hij; simp [h]
      · simp [BitVec.getLsbD_twoPow, hij]
    rw [this]; rfl

theorem bit_and (i : Nat) (x y : Int) : bit i (bAnd .u8 x y) = (bit i x && bit i y) := by unfold bit; rw [B_and]; simp
theorem bit_or (i : Nat) (x y : Int) : bit i (bOr .u8 x y) = (bit i x || bit i y) := by unfold bit; rw [B_or]; simp
theorem bit_xor (i : Nat) (x y : Int) : bit i (bXor .u8 x y) = (bit i x ^^ bit i y) := by unfold bit; rw [B_xor]; simp
theorem bit_andNot (i : Nat) (hi : i < 8) (x y : Int) : bit i (bAndNot .u8 x y) = (bit i x && !bit i y) := by unfold bit; rw [B_andNot]; simp [hi]

theorem bit_fPut (i : Nat) (hi : i < 8) (p f : Int) (s : Bool) : bit i (fPut p f s) = cond (bit i f) s (bit i p) := by
  unfold fPut
  cases s with
  | true => simp only [cond_true, bit_or]; cases bit i f <;> cases bit i p <;> rfl
  | false => simp only [cond_false, bit_andNot i hi]; cases bit i f <;> cases bit i p <;> rfl

theorem bit_fNz (i : Nat) (hi : i < 8) (r p : Int) : bit i (fNz r p) = if i = 1 then r == 0 else if i = 7 then bit 7 r else bit i p := by
  have h : i = 0 ∨ i = 1 ∨ i = 2 ∨ i = 3 ∨ i = 4 ∨ i = 5 ∨ i = 6 ∨ i = 7 := by omega
  unfold fNz
  rcases h with rfl | rfl | rfl | rfl | rfl | rfl | rfl | rfl <;> cases r == 0 <;> simp [bit_or, bit_and, bit_andNot] <;> simp [bit]

theorem bit0_mod {m : Int} (h0 : 0 ≤ m) (h : m < 256) : bit 0 m = (m % 2 == 1) := by
  obtain ⟨n, rfl⟩ := Int.eq_ofNat_of_zero_le h0
  unfold bit B
  rw [BitVec.ofInt_natCast]
  simp only [BitVec.getLsbD_ofNat, Nat.testBit_zero]
  have : (n : Int) % 2 = ((n % 2 : Nat) : Int) := by omega
  rw [this]
  rcases Nat.mod_two_eq_zero_or_one n with h | h <;> simp [h]

theorem and1 (x : Int) : (bAnd .u8 x 1 != 0) = bit 0 x := and_ne x 0 (by omega)
theorem and2 (x : Int) : (bAnd .u8 x 2 != 0) = bit 1 x := and_ne x 1 (by omega)
theorem and8 (x : Int) : (bAnd .u8 x 8 != 0) = bit 3 x := and_ne x 3 (by omega)
theorem and128 (x : Int) : (bAnd .u8 x 128 != 0) = bit 7 x := and_ne x 7 (by omega)
theorem and8' (x : Int) : (bAnd .u8 x 8 == 0) = !bit 3 x := by rw [← and8]; simp [bne]
theorem bAnd1 (x : Int) : bAnd .u8 x 1 = if bit 0 x then 1 else 0 := by
  have h := and1 x
  have hlt : bAnd .u8 x 1 = 0 ∨ bAnd .u8 x 1 = 1 := by
    rw [bAnd_eq]
    have : (B x &&& B 1).toNat < 2 := by
      rw [BitVec.toNat_and]
      exact Nat.lt_of_le_of_lt Nat.and_le_right (by decide)
    omega
  rcases hlt with h1 | h1 <;> rw [h1] at h <;> simp at h <;> simp [h1, ← h]

theorem u8_range (v : BitVec 8) : 0 ≤ (v.toNat : Int) ∧ (v.toNat : Int) < 256 := by have := v.isLt; omega
/-- a byte -/
def U8 (x : Int) : Prop := 0 ≤ x ∧ x < 256
theorem wrap64 {x : Int} (h0 : -9223372036854775808 ≤ x) (h : x < 9223372036854775808) : IntKind.i64.wrap x = x := by
  have e1 : (2 : Int) ^ 64 = 18446744073709551616 := by decide
  have e2 : (2 : Int) ^ (64 - 1) = 9223372036854775808 := by decide
  simp only [IntKind.wrap, IntKind.bits, IntKind.signed, e1, e2, Bool.true_and, decide_eq_true_eq]
  split <;> omega

theorem fSum_eq {a m p : Int} (ha : U8 a) (hm : U8 m) : fSum a m p = a + m + (if bit 0 p then 1 else 0) := by
  unfold U8 at ha hm
  unfold fSum
  rw [bAnd1]
  split <;> (rw [wrap64 (x := a) (by omega) (by omega), wrap64 (x := m) (by omega) (by omega), wrap64 (x := a + m) (by omega) (by omega)] <;> first | (rw [wrap64 (x := 1) (by omega) (by omega), wrap64 (by omega) (by omega)]) | (rw [wrap64 (x := 0) (by omega) (by omega), wrap64 (by omega) (by omega)]))

theorem fAdc_ok {a m p : Int} (ha : U8 a) (hm : U8 m) (hd : bit 3 p = false) :
    (fAdc a m p).1 = (a + m + (if bit 0 p then 1 else 0)) % 256 ∧ bit 0 (fAdc a m p).2 = decide (255 < a + m + (if bit 0 p then 1 else 0)) ∧ bit 3 (fAdc a m p).2 = false := by
  unfold fAdc
  rw [and8', hd]
  simp only [Bool.not_false, cond_true, adcB]
  rw [fSum_eq ha hm, wrap8]
  refine ⟨rfl, ?_, ?_⟩
  · rw [bit_fNz 0 (by omega)]
    simp only [show (0 : Nat) ≠ 1 by omega, show (0 : Nat) ≠ 7 by omega, if_false]
    rw [bit_fPut 0 (by omega), show bit 0 64 = false by decide]
    simp only [cond_false]
    rw [bit_fPut 0 (by omega), show bit 0 1 = true by decide]
    rfl
  · rw [bit_fNz 3 (by omega)]
    simp only [show (3 : Nat) ≠ 1 by omega, show (3 : Nat) ≠ 7 by omega, if_false]
    rw [bit_fPut 3 (by omega), show bit 3 64 = false by decide]
    simp only [cond_false]
    rw [bit_fPut 3 (by omega), show bit 3 1 = false by decide]
    exact hd

theorem iShr1 {m : Int} : iShr .u8 m 1 = m / 2 := by
  unfold iShr; rw [Int.fdiv_eq_ediv_of_nonneg]; rfl; decide
theorem iShl1 (m : Int) : iShl .u8 m 1 = (m * 2) % 256 := by
  unfold iShl; rw [wrap8]; rfl

theorem bOr_nat {n k : Nat} (hn : n < 256) (hk : k < 256) : bOr .u8 (n : Int) (k : Int) = ((n ||| k : Nat) : Int) := by
  rw [bOr_eq]
  unfold B
  rw [BitVec.ofInt_natCast, BitVec.ofInt_natCast, BitVec.toNat_or, BitVec.toNat_ofNat, BitVec.toNat_ofNat, Nat.mod_eq_of_lt (by omega), Nat.mod_eq_of_lt (by omega)]

/-- ROR -/
theorem ror_eq {m p : Int} (hm : U8 m) : fShR 40 m p = m / 2 + (if bit 0 p then 128 else 0) := by
  unfold fShR
  simp only [show ((40 : Int) = 2) = False by simp, show ((40 : Int) = 32) = False by simp, show ((40 : Int) = 39) = False by simp, if_false]
  rw [iShr1, bAnd1]
  obtain ⟨n, rfl⟩ := Int.eq_ofNat_of_zero_le hm.1
  have hn : n < 256 := by have := hm.2; omega
  rw [show (n : Int) / 2 = ((n / 2 : Nat) : Int) by omega]
  cases bit 0 p with
  | true =>
    simp only [if_true]
    rw [show iShl .u8 1 7 = ((128 : Nat) : Int) by decide, bOr_nat (by omega) (by omega), Nat.or_comm]
    have := Nat.two_pow_add_eq_or_of_lt (i := 7) (b := n / 2) (by omega) 1
    simp only [Nat.mul_one, show (2 : Nat) ^ 7 = 128 by decide] at this
    rw [← this]; omega
  | false =>
    simp only [Bool.false_eq_true, if_false]
    rw [show iShl .u8 0 7 = ((0 : Nat) : Int) by decide, bOr_nat (by omega) (by omega), Nat.or_zero]; omega
theorem ror_bits {m p : Int} (hm : U8 m) : bit 0 (fShP 40 m p) = (m % 2 == 1) ∧ bit 3 (fShP 40 m p) = bit 3 p := by
  unfold fShP
  simp only [show ((40 : Int) = 2) = False by simp, show ((40 : Int) = 39) = False by simp, if_false]
  constructor
  · rw [bit_fNz 0 (by omega)]
    simp only [show (0 : Nat) ≠ 1 by omega, show (0 : Nat) ≠ 7 by omega, if_false]
    rw [bit_fPut 0 (by omega), show bit 0 1 = true by decide, cond_true, and1, bit0_mod hm.1 hm.2]
  · rw [bit_fNz 3 (by omega)]
    simp only [show (3 : Nat) ≠ 1 by omega, show (3 : Nat) ≠ 7 by omega, if_false]
    rw [bit_fPut 3 (by omega), show bit 3 1 = false by decide, cond_false]
theorem lsr_eq (m p : Int) : fShR 32 m p = m / 2 := by
  unfold fShR
  simp only [show ((32 : Int) = 2) = False by simp, if_false, if_true]
  exact iShr1
theorem lsr_bits {m p : Int} (hm : U8 m) : bit 0 (fShP 32 m p) = (m % 2 == 1) ∧ bit 3 (fShP 32 m p) = bit 3 p := by
  unfold fShP
  simp only [show ((32 : Int) = 2) = False by simp, show ((32 : Int) = 39) = False by simp, if_false]
  constructor
  · rw [bit_fNz 0 (by omega)]
    simp only [show (0 : Nat) ≠ 1 by omega, show (0 : Nat) ≠ 7 by omega, if_false]
    rw [bit_fPut 0 (by omega), show bit 0 1 = true by decide, cond_true, and1, bit0_mod hm.1 hm.2]
  · rw [bit_fNz 3 (by omega)]
    simp only [show (3 : Nat) ≠ 1 by omega, show (3 : Nat) ≠ 7 by omega, if_false]
    rw [bit_fPut 3 (by omega), show bit 3 1 = false by decide, cond_false]
end Ev

namespace Ev
open Go

/-! ## a round of the multiplication -/
def mA (b A P : Int) : Int := cond (bit 0 P) (fAdc A b (fPut P 1 false)).1 A
def mP (b A P : Int) : Int := cond (bit 0 P) (fAdc A b (fPut P 1 false)).2 P
def m2 (A1 P1 low : Int) : Int × Int × Int := (fShR 40 A1 P1, fShP 40 low (fShP 40 A1 P1), fShR 40 low (fShP 40 A1 P1))
/-- what is true of the accumulator, the flags and the low byte -/
structure MOk (A P low : Int) : Prop where
  a : U8 A
  l : U8 low
  d : bit 3 P = false

def wOf (A P low : Int) : Int := 2 * (256 * A + low) + (if bit 0 P then 1 else 0)

theorem m1_ok {b A P low : Int} (hb : U8 b) (h : MOk A P low) : U8 (mA b A P) ∧ bit 3 (mP b A P) = false ∧ mA b A P + (if bit 0 (mP b A P) then 256 else 0) = A + (if bit 0 P then b else 0) := by
  unfold mA mP
  cases hc : bit 0 P with
  | false => simp only [cond_false, hc]; exact ⟨h.a, h.d, by simp⟩
  | true =>
    simp only [cond_true]
    have h0 : bit 0 (fPut P 1 false) = false := by rw [bit_fPut 0 (by omega), show bit 0 1 = true by decide]; rfl
    have h3 : bit 3 (fPut P 1 false) = false := by rw [bit_fPut 3 (by omega), show bit 3 1 = false by decide]; exact h.d
    obtain ⟨h1, h2, h4⟩ := fAdc_ok h.a hb h3
    rw [h0] at h1 h2
    have ha := h.a; unfold U8 at ha hb
    simp only [h1, h2]
    simp only [Bool.false_eq_true, if_false, if_true, Int.add_zero, decide_eq_true_eq]
    refine ⟨⟨by omega, by omega⟩, h4, ?_⟩
    split <;> omega

theorem m2_ok {A1 P1 low : Int} (ha : U8 A1) (hl : U8 low) (hd : bit 3 P1 = false) {T : Int} (hT : A1 + (if bit 0 P1 then 256 else 0) = T) :
    MOk (m2 A1 P1 low).1 (m2 A1 P1 low).2.1 (m2 A1 P1 low).2.2 ∧ 256 * (m2 A1 P1 low).1 + (m2 A1 P1 low).2.2 = 128 * T + low / 2 ∧ (bit 0 (m2 A1 P1 low).2.1 = (low % 2 == 1)) := by
  unfold m2
  simp only
  obtain ⟨k1, k2⟩ := ror_bits (p := P1) ha
  obtain ⟨k3, k4⟩ := ror_bits (p := fShP 40 A1 P1) hl
  rw [ror_eq ha, ror_eq hl, k1]
  unfold U8 at ha hl
  have hb : (A1 % 2 == 1) = true ↔ A1 % 2 = 1 := by simp
  refine ⟨⟨⟨?_, ?_⟩, ⟨?_, ?_⟩, ?_⟩, ?_, k3⟩
  · split <;> omega
  · split <;> omega
  · simp only [hb]; split <;> omega
  · simp only [hb]; split <;> omega
  · rw [k4, k2, hd]
  · simp only [hb]
    subst hT
    split <;> split <;> omega

/-- flags that DEX puts: N and Z alone -/
theorem nz_keep (X P : Int) : bit 0 (fNz X P) = bit 0 P ∧ bit 3 (fNz X P) = bit 3 P := by
  constructor
  · rw [bit_fNz 0 (by omega)]; simp
  · rw [bit_fNz 3 (by omega)]; simp

/-- a round -/
def mN (b X : Int) (q : Int × Int × Int) : Int × Int × Int :=
  ((m2 (mA b q.1 q.2.1) (mP b q.1 q.2.1) q.2.2).1, fNz X (m2 (mA b q.1 q.2.1) (mP b q.1 q.2.1) q.2.2).2.1, (m2 (mA b q.1 q.2.1) (mP b q.1 q.2.1) q.2.2).2.2)

def wQ (q : Int × Int × Int) : Int := wOf q.1 q.2.1 q.2.2
def qOk (q : Int × Int × Int) : Prop := MOk q.1 q.2.1 q.2.2

theorem mN_ok {b X : Int} (hb : U8 b) {q : Int × Int × Int} (h : qOk q) : qOk (mN b X q) ∧ wQ (mN b X q) = wQ q / 2 + (if wQ q % 2 = 1 then 256 * b else 0) := by
  obtain ⟨A, P, low⟩ := q
  have h : MOk A P low := h
  obtain ⟨k1, k2, k3⟩ := m1_ok hb h
  obtain ⟨g1, g2, g3⟩ := m2_ok k1 h.l k2 k3
  obtain ⟨n0, n3⟩ := nz_keep X (m2 (mA b A P) (mP b A P) low).2.1
  refine ⟨⟨g1.a, g1.l, n3.trans g1.d⟩, ?_⟩
  show 2 * (256 * (m2 (mA b A P) (mP b A P) low).1 + (m2 (mA b A P) (mP b A P) low).2.2) + (if bit 0 (fNz X (m2 (mA b A P) (mP b A P) low).2.1) = true then 1 else 0) =
    (2 * (256 * A + low) + (if bit 0 P = true then 1 else 0)) / 2 + (if (2 * (256 * A + low) + (if bit 0 P = true then 1 else 0)) % 2 = 1 then 256 * b else 0)
  rw [n0, g3, g2]
  have hlow := h.l; have hA := h.a
  unfold U8 at hlow hA
  have hl : (low % 2 == 1) = true ↔ low % 2 = 1 := by simp
  simp only [hl]
  cases hc : bit 0 P with
  | true =>
    simp only [if_true]
    rw [if_pos (show (2 * (256 * A + low) + 1) % 2 = 1 by omega)]
    rcases Int.emod_two_eq low with h2 | h2
    · rw [if_neg (by omega)]; omega
    · rw [if_pos h2]; omega
  | false =>
    simp only [Bool.false_eq_true, if_false]
    rw [if_neg (show ¬ (2 * (256 * A + low) + 0) % 2 = 1 by omega)]
    rcases Int.emod_two_eq low with h2 | h2
    · rw [if_neg (by omega)]; omega
    · rw [if_pos h2]; omega

def mF (b : Int) : Nat → Int → Int × Int × Int → Int × Int × Int
  | 0, _, q => q
  | n + 1, X, q => mF b n (X - 1) (mN b (X - 1) q)

/-- eight rounds make the product -/
theorem mul_ok {a b X : Int} (ha : U8 a) (hb : U8 b) {q : Int × Int × Int} (h : qOk q) (hw : wQ q = a) : 256 * (mF b 8 X q).1 + (mF b 8 X q).2.2 = a * b := by
  simp only [mF]
  obtain ⟨h1, w1⟩ := mN_ok (X := X - 1) hb h
  obtain ⟨h2, w2⟩ := mN_ok (X := X - 1 - 1) hb h1
  obtain ⟨h3, w3⟩ := mN_ok (X := X - 1 - 1 - 1) hb h2
  obtain ⟨h4, w4⟩ := mN_ok (X := X - 1 - 1 - 1 - 1) hb h3
  obtain ⟨h5, w5⟩ := mN_ok (X := X - 1 - 1 - 1 - 1 - 1) hb h4
  obtain ⟨h6, w6⟩ := mN_ok (X := X - 1 - 1 - 1 - 1 - 1 - 1) hb h5
  obtain ⟨h7, w7⟩ := mN_ok (X := X - 1 - 1 - 1 - 1 - 1 - 1 - 1) hb h6
  obtain ⟨h8, w8⟩ := mN_ok (X := X - 1 - 1 - 1 - 1 - 1 - 1 - 1 - 1) hb h7
  rw [hw] at w1
  generalize mN b (X - 1) q = q1 at *
  generalize mN b (X - 1 - 1) q1 = q2 at *
  generalize mN b (X - 1 - 1 - 1) q2 = q3 at *
  generalize mN b (X - 1 - 1 - 1 - 1) q3 = q4 at *
  generalize mN b (X - 1 - 1 - 1 - 1 - 1) q4 = q5 at *
  generalize mN b (X - 1 - 1 - 1 - 1 - 1 - 1) q5 = q6 at *
  generalize mN b (X - 1 - 1 - 1 - 1 - 1 - 1 - 1) q6 = q7 at *
  generalize mN b (X - 1 - 1 - 1 - 1 - 1 - 1 - 1 - 1) q7 = q8 at *
  clear hw h h1 h2 h3 h4 h5 h6 h7
  unfold U8 at ha
  -- the bits of a, one by one
  have key : ∀ (t y : Int), (if t % 2 = 1 then 256 * y else 0) = 256 * ((t % 2) * y) := fun t y => by
    rcases Int.emod_two_eq t with h | h <;> simp [h]
  rw [key] at w1 w2 w3 w4 w5 w6 w7 w8
  have e1 : wQ q1 % 2 = a / 2 % 2 := by omega
  rw [e1] at w2
  have e2 : wQ q2 % 2 = a / 4 % 2 := by omega
  rw [e2] at w3
  have e3 : wQ q3 % 2 = a / 8 % 2 := by omega
  rw [e3] at w4
  have e4 : wQ q4 % 2 = a / 16 % 2 := by omega
  rw [e4] at w5
  have e5 : wQ q5 % 2 = a / 32 % 2 := by omega
  rw [e5] at w6
  have e6 : wQ q6 % 2 = a / 64 % 2 := by omega
  rw [e6] at w7
  have e7 : wQ q7 % 2 = a / 128 % 2 := by omega
  rw [e7] at w8
  have hq : 256 * q8.1 + q8.2.2 = wQ q8 / 2 := by
    unfold wQ wOf; split <;> omega
  have hab : a * b = a % 2 * b + 2 * (a / 2 % 2 * b) + 4 * (a / 4 % 2 * b) + 8 * (a / 8 % 2 * b) + 16 * (a / 16 % 2 * b) + 32 * (a / 32 % 2 * b) + 64 * (a / 64 % 2 * b) + 128 * (a / 128 % 2 * b) := by
    have h0 : a = a % 2 + 2 * (a / 2 % 2) + 4 * (a / 4 % 2) + 8 * (a / 8 % 2) + 16 * (a / 16 % 2) + 32 * (a / 32 % 2) + 64 * (a / 64 % 2) + 128 * (a / 128 % 2) := by omega
    generalize a % 2 = x0 at *
    generalize a / 2 % 2 = x1 at *
    generalize a / 4 % 2 = x2 at *
    generalize a / 8 % 2 = x3 at *
    generalize a / 16 % 2 = x4 at *
    generalize a / 32 % 2 = x5 at *
    generalize a / 64 % 2 = x6 at *
    generalize a / 128 % 2 = x7 at *
    rw [h0]
    simp only [Int.add_mul, Int.mul_assoc]
  rw [hq, hab]
  generalize a % 2 * b = y0 at *
  generalize a / 2 % 2 * b = y1 at *
  generalize a / 4 % 2 * b = y2 at *
  generalize a / 8 % 2 * b = y3 at *
  generalize a / 16 % 2 * b = y4 at *
  generalize a / 32 % 2 * b = y5 at *
  generalize a / 64 % 2 * b = y6 at *
  generalize a / 128 % 2 * b = y7 at *
  omega
end Ev

namespace Ev
open Go

/-! ## the division that gives back -/
theorem bit7 {m : Int} (hm : U8 m) : bit 7 m = decide (128 ≤ m) := by
  obtain ⟨n, rfl⟩ := Int.eq_ofNat_of_zero_le hm.1
  have hn : n < 256 := by have := hm.2; omega
  unfold bit B
  rw [BitVec.ofInt_natCast]
  rw [BitVec.getLsbD_ofNat]
  rw [Nat.testBit_eq_decide_div_mod_eq]
  have h2 : (2 : Nat) ^ 7 = 128 := by decide
  rw [h2]
  simp only [show (7 : Nat) < 8 by omega, decide_true, Bool.true_and]
  by_cases h : 128 ≤ n
  · have : n / 128 % 2 = 1 := by omega
    simp [this]; omega
  · have : n / 128 % 2 = 0 := by omega
    simp [this]; omega

theorem asl_eq {m p : Int} : fShR 2 m p = (m * 2) % 256 := by unfold fShR; rw [if_pos rfl, iShl1]
theorem asl_bits {m p : Int} (hm : U8 m) : bit 0 (fShP 2 m p) = decide (128 ≤ m) ∧ bit 3 (fShP 2 m p) = bit 3 p := by
  unfold fShP
  simp only [if_true]
  constructor
  · rw [bit_fNz 0 (by omega)]
    simp only [show (0 : Nat) ≠ 1 by omega, show (0 : Nat) ≠ 7 by omega, if_false]
    rw [bit_fPut 0 (by omega), show bit 0 1 = true by decide, cond_true, and128, bit7 hm]
  · rw [bit_fNz 3 (by omega)]
    simp only [show (3 : Nat) ≠ 1 by omega, show (3 : Nat) ≠ 7 by omega, if_false]
    rw [bit_fPut 3 (by omega), show bit 3 1 = false by decide, cond_false]
theorem rol_eq {m p : Int} (hm : U8 m) : fShR 39 m p = (m * 2) % 256 + (if bit 0 p then 1 else 0) := by
  unfold fShR
  simp only [show ((39 : Int) = 2) = False by simp, show ((39 : Int) = 32) = False by simp, if_false, if_true]
  rw [iShl1, bAnd1]
  obtain ⟨n, rfl⟩ := Int.eq_ofNat_of_zero_le hm.1
  have hn : n < 256 := by have := hm.2; omega
  rw [show (n : Int) * 2 % 256 = ((2 * (n % 128) : Nat) : Int) by omega]
  cases bit 0 p with
  | true =>
    simp only [if_true]
    rw [show (1 : Int) = ((1 : Nat) : Int) from rfl, bOr_nat (by omega) (by omega)]
    have := Nat.two_pow_add_eq_or_of_lt (i := 1) (b := 1) (by omega) (n % 128)
    simp only [Nat.pow_one] at this
    rw [← this]; omega
  | false =>
    simp only [Bool.false_eq_true, if_false]
    rw [show (0 : Int) = ((0 : Nat) : Int) from rfl, bOr_nat (by omega) (by omega), Nat.or_zero]; omega
theorem rol_bits {m p : Int} (hm : U8 m) : bit 0 (fShP 39 m p) = decide (128 ≤ m) ∧ bit 3 (fShP 39 m p) = bit 3 p := by
  unfold fShP
  simp only [show ((39 : Int) = 2) = False by simp, if_false, if_true]
  constructor
  · rw [bit_fNz 0 (by omega)]
    simp only [show (0 : Nat) ≠ 1 by omega, show (0 : Nat) ≠ 7 by omega, if_false]
    rw [bit_fPut 0 (by omega), show bit 0 1 = true by decide, cond_true, and128, bit7 hm]
  · rw [bit_fNz 3 (by omega)]
    simp only [show (3 : Nat) ≠ 1 by omega, show (3 : Nat) ≠ 7 by omega, if_false]
    rw [bit_fPut 3 (by omega), show bit 3 1 = false by decide, cond_false]
theorem cmp_bits (r m p : Int) : bit 0 (fCmp r m p) = decide (m ≤ r) ∧ bit 3 (fCmp r m p) = bit 3 p := by
  unfold fCmp
  constructor
  · rw [(nz_keep _ _).1, bit_fPut 0 (by omega), show bit 0 1 = true by decide]; rfl
  · rw [(nz_keep _ _).2, bit_fPut 3 (by omega), show bit 3 1 = false by decide]; rfl
/-- Sbc where D is clear and C is set -/
theorem sbc_ok {a m p : Int} (ha : U8 a) (hm : U8 m) (hc : bit 0 p = true) (hd : bit 3 p = false) : (fSbc a m p).1 = (a - m) % 256 ∧ bit 3 (fSbc a m p).2 = false := by
  have h1 : fDif a m p = a - m := by
    unfold U8 at ha hm
    unfold fDif sbcW
    rw [bAnd1, hc]
    simp only [if_true]
    rw [show IntKind.i64.wrap (1 - IntKind.i64.wrap 1) = 0 by decide, wrap64 (x := a) (by omega) (by omega), wrap64 (x := m) (by omega) (by omega), wrap64 (x := a - m) (by omega) (by omega), Int.sub_zero, wrap64 (by omega) (by omega)]
  unfold fSbc sbcR sbcP
  rw [and8', hd, h1]
  simp only [Bool.not_false, cond_true]
  refine ⟨wrap8 _, ?_⟩
  rw [(nz_keep _ _).2, bit_fPut 3 (by omega), show bit 3 64 = false by decide, cond_false, bit_fPut 3 (by omega), show bit 3 1 = false by decide]
  exact hd

/-- a round: high, low, A, P behind it -/
structure DS where
  hi : Int
  lo : Int
  a : Int
  p : Int
def dA (s : DS) : Int := fShR 39 s.a (fShP 39 s.hi (fShP 2 s.lo s.p))
def dP (s : DS) : Int := fShP 39 s.a (fShP 39 s.hi (fShP 2 s.lo s.p))
def dH (s : DS) : Int := fShR 39 s.hi (fShP 2 s.lo s.p)
def dL (s : DS) : Int := fShR 2 s.lo s.p
def dSub (d h l a p : Int) : DS := ⟨h, IntKind.u8.wrap (l + 1), (fSbc a d p).1, fNz (IntKind.u8.wrap (l + 1)) (fSbc a d p).2⟩
def dN (d : Int) (s : DS) : DS :=
  cond (!(bit 0 (dP s))) (cond (!(bit 0 (fCmp (dA s) d (dP s)))) ⟨dH s, dL s, dA s, fCmp (dA s) d (dP s)⟩ (dSub d (dH s) (dL s) (dA s) (fCmp (dA s) d (dP s)))) (dSub d (dH s) (dL s) (dA s) (dP s))

structure DOk (d : Int) (s : DS) : Prop where
  h : U8 s.hi
  l : U8 s.lo
  a0 : 0 ≤ s.a
  a : s.a < d
  p : bit 3 s.p = false

def hOf (s : DS) : Int := 256 * s.hi + s.lo

theorem hOf_mk (h l a p : Int) : hOf ⟨h, l, a, p⟩ = 256 * h + l := rfl

structure DV (d : Int) (s : DS) : Prop where
  l : U8 (dL s)
  le : dL s % 2 = 0
  h : U8 (dH s)
  a : U8 (dA s)
  c : bit 0 (dP s) = decide (128 ≤ s.a)
  p : bit 3 (dP s) = false
  w : 256 * dH s + dL s = 2 * hOf s % 65536
  t : dA s + (if 128 ≤ s.a then 256 else 0) = 2 * s.a + hOf s / 32768
  q : 0 ≤ hOf s / 32768 ∧ hOf s / 32768 ≤ 1

theorem dV_ok {d : Int} (hd : U8 d) {s : DS} (h : DOk d s) : DV d s := by
  have ha : U8 s.a := ⟨h.a0, by have := h.a; have := hd.2; omega⟩
  obtain ⟨k1, k2⟩ := asl_bits (p := s.p) h.l
  obtain ⟨k3, k4⟩ := rol_bits (p := fShP 2 s.lo s.p) h.h
  obtain ⟨k5, k6⟩ := rol_bits (p := fShP 39 s.hi (fShP 2 s.lo s.p)) ha
  have eL : dL s = (s.lo * 2) % 256 := asl_eq
  have eH : dH s = (s.hi * 2) % 256 + (if 128 ≤ s.lo then 1 else 0) := by unfold dH; rw [rol_eq h.h, k1]; simp
  have eA : dA s = (s.a * 2) % 256 + (if 128 ≤ s.hi then 1 else 0) := by unfold dA; rw [rol_eq ha, k3]; simp
  have hl := h.l; have hh := h.h
  unfold U8 at hl hh ha
  refine ⟨?_, ?_, ?_, ?_, k5, ?_, ?_, ?_, ?_⟩
  · rw [eL]; exact ⟨by omega, by omega⟩
  · rw [eL]; omega
  · rw [eH]; constructor <;> split <;> omega
  · rw [eA]; constructor <;> split <;> omega
  · unfold dP; rw [k6, k4, k2, h.p]
  · rw [eH, eL]; unfold hOf; split <;> omega
  · rw [eA]; unfold hOf; split <;> split <;> omega
  · unfold hOf; omega

theorem dSub_ok {d : Int} (hd : U8 d) {s : DS} (h : DOk d s) (q : Int) (hq0 : bit 0 q = true) (hq3 : bit 3 q = false) (hge : d ≤ 2 * s.a + hOf s / 32768) :
    DOk d (dSub d (dH s) (dL s) (dA s) q) ∧ hOf (dSub d (dH s) (dL s) (dA s) q) = 2 * hOf s % 65536 + 1 ∧ (dSub d (dH s) (dL s) (dA s) q).a = 2 * s.a + hOf s / 32768 - d := by
  have v := dV_ok hd h
  obtain ⟨s1, s2⟩ := sbc_ok (p := q) v.a hd hq0 hq3
  have hl := v.l; have hle := v.le; have hw := v.w; have ht := v.t; have hq := v.q; have ha := v.a; have had := h.a; have ha0 := h.a0
  unfold U8 at hl ha hd
  have e1 : IntKind.u8.wrap (dL s + 1) = dL s + 1 := by rw [wrap8]; omega
  have e2 : (fSbc (dA s) d q).1 = 2 * s.a + hOf s / 32768 - d := by
    rw [s1]
    split at ht <;> omega
  unfold dSub
  rw [e1, e2]
  have g1 : 0 ≤ dL s + 1 ∧ dL s + 1 < 256 := by omega
  have g2 : 0 ≤ 2 * s.a + hOf s / 32768 - d := by omega
  have g3 : 2 * s.a + hOf s / 32768 - d < d := by omega
  refine ⟨⟨v.h, g1, g2, g3, (nz_keep _ _).2.trans s2⟩, ?_, rfl⟩
  rw [hOf_mk, ← hw]; omega

theorem dN_ok {d : Int} (hd : U8 d) {s : DS} (h : DOk d s) : DOk d (dN d s) ∧ ((hOf (dN d s) = 2 * hOf s % 65536 ∧ (dN d s).a = 2 * s.a + hOf s / 32768) ∨ (hOf (dN d s) = 2 * hOf s % 65536 + 1 ∧ (dN d s).a = 2 * s.a + hOf s / 32768 - d)) := by
  have v := dV_ok hd h
  obtain ⟨c1, c2⟩ := cmp_bits (dA s) d (dP s)
  have ht := v.t
  have ha := v.a
  unfold dN
  rw [c1, v.c]
  unfold U8 at hd ha
  by_cases h1 : 128 ≤ s.a
  · rw [decide_eq_true h1]
    rw [if_pos h1] at ht
    have := dSub_ok hd h (dP s) (by rw [v.c]; exact decide_eq_true h1) v.p (by omega)
    exact ⟨this.1, .inr this.2⟩
  · rw [decide_eq_false h1]
    rw [if_neg h1] at ht
    by_cases h2 : d ≤ dA s
    · rw [decide_eq_true h2]
      have := dSub_ok hd h (fCmp (dA s) d (dP s)) (by rw [c1]; exact decide_eq_true h2) (c2.trans v.p) (by omega)
      exact ⟨this.1, .inr this.2⟩
    · rw [decide_eq_false h2]
      refine ⟨⟨v.h, v.l, ha.1, ?_, c2.trans v.p⟩, .inl ⟨v.w, ?_⟩⟩
      · have : dA s < d := by omega
        exact this
      · have : dA s = 2 * s.a + hOf s / 32768 := by omega
        exact this

def dF (d : Int) : Nat → DS → DS
  | 0, s => s
  | n + 1, s => dF d n (dN d s)

/-- what stays true: q is the quotient so far, Y is q times (65536 d - 1), N is the dividend times 2 to the rounds -/
theorem dF_ok {d : Int} (hd : U8 d) : ∀ (n : Nat) (s : DS) (q y N m : Int), DOk d s → 0 ≤ q → q < m → y = q * (65536 * d - 1) → 65536 * s.a + hOf s + y = N →
    ∃ q' y', DOk d (dF d n s) ∧ 0 ≤ q' ∧ q' < m * 2 ^ n ∧ y' = q' * (65536 * d - 1) ∧ 65536 * (dF d n s).a + hOf (dF d n s) + y' = N * 2 ^ n
  | 0, s, q, y, N, m, h, h0, h1, h2, h3 => ⟨q, y, h, h0, by simpa using h1, h2, by simpa [dF] using h3⟩
  | n + 1, s, q, y, N, m, h, h0, h1, h2, h3 => by
    obtain ⟨k, hk⟩ := dN_ok hd h
    have hr : 0 ≤ hOf s ∧ hOf s < 65536 := by have := h.h; have := h.l; unfold U8 at *; unfold hOf; omega
    have step : ∃ q1 y1, 0 ≤ q1 ∧ q1 < m * 2 ∧ y1 = q1 * (65536 * d - 1) ∧ 65536 * (dN d s).a + hOf (dN d s) + y1 = N * 2 := by
      rcases hk with ⟨e1, e2⟩ | ⟨e1, e2⟩
      · refine ⟨2 * q, 2 * y, by omega, by omega, by rw [h2, Int.mul_assoc], ?_⟩
        rw [e1, e2]; omega
      · refine ⟨2 * q + 1, 2 * y + (65536 * d - 1), by omega, by omega, by rw [h2, Int.add_mul, Int.mul_assoc]; omega, ?_⟩
        rw [e1, e2]; omega
    obtain ⟨q1, y1, g0, g1, g2, g3⟩ := step
    obtain ⟨q2, y2, f1, f2, f3, f4, f5⟩ := dF_ok hd n (dN d s) q1 y1 (N * 2) (m * 2) k g0 g1 g2 g3
    have e : ∀ x : Int, x * 2 ^ (n + 1) = x * 2 * 2 ^ n := fun x => by rw [Int.pow_succ, Int.mul_comm (2 ^ n) 2, Int.mul_assoc]
    exact ⟨q2, y2, f1, f2, by rw [e]; exact f3, f4, by rw [e]; exact f5⟩

/-- sixteen rounds make quotient and rest -/
theorem div_ok {d : Int} (hd : U8 d) (h1 : 0 < d) {s : DS} (h : DOk d s) (ha : s.a = 0) : hOf (dF d 16 s) = hOf s / d ∧ (dF d 16 s).a = hOf s % d ∧ DOk d (dF d 16 s) := by
  obtain ⟨q, y, f1, f2, f3, f4, f5⟩ := dF_ok hd 16 s 0 0 (hOf s) 1 h (by omega) (by omega) (by simp) (by omega)
  have hr : 0 ≤ hOf (dF d 16 s) ∧ hOf (dF d 16 s) < 65536 := by have := f1.h; have := f1.l; unfold U8 at *; unfold hOf; omega
  have e16 : (2 : Int) ^ 16 = 65536 := by decide
  rw [e16] at f3 f5
  have e : q * (65536 * d - 1) = 65536 * (q * d) - q := by rw [Int.mul_sub, Int.mul_one, ← Int.mul_assoc, Int.mul_comm q 65536, Int.mul_assoc]
  rw [e] at f4
  have hq : hOf (dF d 16 s) = q ∧ (dF d 16 s).a + q * d = hOf s := by
    generalize q * d = z at *
    omega
  have hlt := f1.a; have h0 := f1.a0
  obtain ⟨hq1, hq2⟩ := hq
  have hdiv : hOf s / d = q ∧ hOf s % d = (dF d 16 s).a := by
    have h3 : hOf s = (dF d 16 s).a + d * q := by rw [Int.mul_comm d q]; omega
    constructor
    · rw [h3, Int.add_mul_ediv_left _ _ (by omega), Int.ediv_eq_zero_of_lt h0 hlt, Int.zero_add]
    · rw [h3, Int.add_mul_emod_self_left, Int.emod_eq_of_lt h0 hlt]
  exact ⟨by rw [hq1, hdiv.1], hdiv.2.symm, f1⟩
end Ev
