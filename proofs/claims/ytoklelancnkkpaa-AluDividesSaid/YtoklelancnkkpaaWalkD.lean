/-
  The function AluDivides of the program returns true for all bytes, and the world has at most new blocks behind it.
-/
import Derived.Test.YtoklelancnkkpaaAlu
import Derived.KernelRfl
import Derived.Test.YtoklelancnkkpaaChecked
import Derived.Test.YtoklelancnkkpaaRows
set_option autoImplicit false
set_option linter.unusedVariables false
open Go Ev
namespace T5
noncomputable abbrev P : Program := Go.Proofs.Try.prog
noncomputable def C0 : Cfg := ⟨P, []⟩
theorem ok : ProgOk P := progOk_of (C := Go.Proofs.Try.checked) 400 (by kernel_rfl) (by kernel_rfl) (by kernel_rfl)

def Φ1 : Known := ⟨[(12, pureS sNz), (13, pureS sPut)], []⟩
def Φ2 : Known := ⟨[(12, pureS sNz), (13, pureS sPut), (36, pureS sAdc), (37, pureS sSbc)], []⟩

theorem nz_ev (r p : Int) : ev C0 ⟨[], []⟩ 10 12 [u8 r, u8 p] [] = cond (r == 0) (some ⟨u8 (bOr .u8 (bOr .u8 (bAndNot .u8 p 130) 2) (bAnd .u8 r 128)), [], far, [], false⟩) (some ⟨u8 (bOr .u8 (bAndNot .u8 p 130) (bAnd .u8 r 128)), [], far, [], false⟩) := by kernel_rfl
theorem put_ev (p f : Int) (s : Bool) : ev C0 ⟨[], []⟩ 10 13 [u8 p, u8 f, boo s] [] = cond s (some ⟨u8 (bOr .u8 p f), [], far, [], false⟩) (some ⟨u8 (bAndNot .u8 p f), [], far, [], false⟩) := by kernel_rfl

theorem cond_some {b : Bool} {x y : SR} : cond b (some x) (some y) = some (cond b x y) := by cases b <;> rfl
theorem nz_ev' (r p : Int) : ev C0 ⟨[], []⟩ 10 12 [u8 r, u8 p] [] = some ⟨u8 (fNz r p), [], far, [], false⟩ := by
  rw [nz_ev]; unfold fNz; cases r == 0 <;> rfl
theorem put_ev' (p f : Int) (s : Bool) : ev C0 ⟨[], []⟩ 10 13 [u8 p, u8 f, boo s] [] = some ⟨u8 (fPut p f s), [], far, [], false⟩ := by
  rw [put_ev]; unfold fPut; cases s <;> rfl

theorem nz_good : Good C0 12 (pureS sNz) := good_pure fun args v h => by
  unfold sNz at h
  split at h
  · cases h; exact ⟨rfl, pure_ev ok (.none _) (nz_ev' _ _)⟩
  · cases h
theorem put_good : Good C0 13 (pureS sPut) := good_pure fun args v h => by
  unfold sPut at h
  split at h
  · cases h; exact ⟨rfl, pure_ev ok (.none _) (put_ev' _ _ _)⟩
  · cases h
theorem k1 : Knows C0 Φ1 := .f (.f (.none _) put_good) nz_good

def t2 (x : Int × Int) : SR := ⟨tup2 x.1 x.2, [], far, [], false⟩
theorem adc_ev (a m p : Int) : ev C0 Φ1 10 36 [u8 a, u8 m, u8 p] [] =
    cond (bAnd .u8 p 8 == 0) (some (t2 (adcB a m p)))
    (cond (iLt 9 (adcL a m p))
      (cond (iLe 160 (adcS a m (adcH (adcL a m p)))) (some (t2 (adcD a m p (adcS a m (adcH (adcL a m p))) (adcT (adcS a m (adcH (adcL a m p))))))) (some (t2 (adcD a m p (adcS a m (adcH (adcL a m p))) (adcS a m (adcH (adcL a m p)))))))
      (cond (iLe 160 (adcS a m (adcL a m p))) (some (t2 (adcD a m p (adcS a m (adcL a m p)) (adcT (adcS a m (adcL a m p)))))) (some (t2 (adcD a m p (adcS a m (adcL a m p)) (adcS a m (adcL a m p))))))) := by kernel_rfl
theorem sbc_ev (a m p : Int) : ev C0 Φ1 10 37 [u8 a, u8 m, u8 p] [] =
    cond (bAnd .u8 p 8 == 0) (some (t2 (IntKind.u8.wrap (fDif a m p), sbcP a m p)))
    (cond (iLt (sbcL a m p) 0)
      (cond (iLt (sbcS a m (sbcH (sbcL a m p))) 0) (some (t2 (IntKind.u8.wrap (sbcT (sbcS a m (sbcH (sbcL a m p)))), sbcP a m p))) (some (t2 (IntKind.u8.wrap (sbcS a m (sbcH (sbcL a m p))), sbcP a m p))))
      (cond (iLt (sbcS a m (sbcL a m p)) 0) (some (t2 (IntKind.u8.wrap (sbcT (sbcS a m (sbcL a m p))), sbcP a m p))) (some (t2 (IntKind.u8.wrap (sbcS a m (sbcL a m p)), sbcP a m p))))) := by kernel_rfl
theorem arr_ev (a m p : Int) : ev C0 Φ1 10 38 [u8 a, u8 m, u8 p] [] =
  cond (bAnd .u8 p 8 == 0) (some (t2 (arrR a m p, arrB a m p)))
    (cond (arrL a m)
      (cond (arrH a m) (some (t2 (IntKind.u8.wrap (arrO (arrR a m p) + 96), fPut (arrQ a m p) 1 (arrH a m)))) (some (t2 (arrO (arrR a m p), fPut (arrQ a m p) 1 (arrH a m)))))
      (cond (arrH a m) (some (t2 (IntKind.u8.wrap (arrR a m p + 96), fPut (arrQ a m p) 1 (arrH a m)))) (some (t2 (arrR a m p, fPut (arrQ a m p) 1 (arrH a m)))))) := by kernel_rfl

theorem cond_t2 {b : Bool} {x y : Int × Int} : cond b (some (t2 x)) (some (t2 y)) = some (t2 (cond b x y)) := by cases b <;> rfl
theorem adc_ev' (a m p : Int) : ev C0 Φ1 10 36 [u8 a, u8 m, u8 p] [] = some (t2 (fAdc a m p)) := by
  rw [adc_ev]; simp only [cond_t2]; rfl
theorem sbc_ev' (a m p : Int) : ev C0 Φ1 10 37 [u8 a, u8 m, u8 p] [] = some (t2 (fSbc a m p)) := by
  rw [sbc_ev]; simp only [cond_t2]; unfold fSbc sbcR
  congr 2
  cases (bAnd .u8 p 8 == 0) <;> cases (iLt (sbcL a m p) 0) <;> cases (iLt (sbcS a m (sbcH (sbcL a m p))) 0) <;> cases (iLt (sbcS a m (sbcL a m p)) 0) <;> rfl
theorem arr_ev' (a m p : Int) : ev C0 Φ1 10 38 [u8 a, u8 m, u8 p] [] = some (t2 (fArr a m p)) := by
  rw [arr_ev]; simp only [cond_t2]; rfl
theorem adc_good : Good C0 36 (pureS sAdc) := good_pure fun args v h => by
  unfold sAdc at h
  split at h
  · cases h; exact ⟨rfl, pure_ev ok k1 (adc_ev' _ _ _)⟩
  · cases h
theorem sbc_good : Good C0 37 (pureS sSbc) := good_pure fun args v h => by
  unfold sSbc at h
  split at h
  · cases h; exact ⟨rfl, pure_ev ok k1 (sbc_ev' _ _ _)⟩
  · cases h
theorem arr_good : Good C0 38 (pureS sArr) := good_pure fun args v h => by
  unfold sArr at h
  split at h
  · cases h; exact ⟨rfl, pure_ev ok k1 (arr_ev' _ _ _)⟩
  · cases h
theorem cmp_ev (r m p : Int) : ev C0 Φ1 10 46 [u8 r, u8 m, u8 p] [] = some ⟨u8 (fCmp r m p), [], far, [], false⟩ := by kernel_rfl
theorem cmp_good : Good C0 46 (pureS sCmp) := good_pure fun args v h => by
  unfold sCmp at h
  split at h
  · cases h; exact ⟨rfl, pure_ev ok k1 (cmp_ev _ _ _)⟩
  · cases h
theorem asl_ev (m p : Int) : ev C0 Φ1 10 10 [i64 2, u8 m, u8 p] [] = some ⟨tup2 (fShR 2 m p) (fShP 2 m p), [], far, [], false⟩ := by kernel_rfl
theorem lsr_ev (m p : Int) : ev C0 Φ1 10 10 [i64 32, u8 m, u8 p] [] = some ⟨tup2 (fShR 32 m p) (fShP 32 m p), [], far, [], false⟩ := by kernel_rfl
theorem rol_ev (m p : Int) : ev C0 Φ1 10 10 [i64 39, u8 m, u8 p] [] = some ⟨tup2 (fShR 39 m p) (fShP 39 m p), [], far, [], false⟩ := by kernel_rfl
theorem ror_ev (m p : Int) : ev C0 Φ1 10 10 [i64 40, u8 m, u8 p] [] = some ⟨tup2 (fShR 40 m p) (fShP 40 m p), [], far, [], false⟩ := by kernel_rfl
theorem shift_good : Good C0 10 (pureS sShift) := good_pure fun args v h => by
  unfold sShift at h
  split at h
  · split at h
    · rename_i h0; subst h0; cases h; exact ⟨rfl, pure_ev ok k1 (asl_ev _ _)⟩
    · split at h
      · rename_i h0; subst h0; cases h; exact ⟨rfl, pure_ev ok k1 (lsr_ev _ _)⟩
      · split at h
        · rename_i h0; subst h0; cases h; exact ⟨rfl, pure_ev ok k1 (rol_ev _ _)⟩
        · split at h
          · rename_i h0; subst h0; cases h; exact ⟨rfl, pure_ev ok k1 (ror_ev _ _)⟩
          · cases h
  · cases h
def Φ3 : Known := ⟨[(12, pureS sNz), (13, pureS sPut), (36, pureS sAdc), (37, pureS sSbc), (38, pureS sArr), (46, pureS sCmp), (10, pureS sShift)], []⟩
theorem k3 : Knows C0 Φ3 := .f (.f (.f (.f (.f (.f (.f (.none _) shift_good) cmp_good) arr_good) sbc_good) adc_good) put_good) nz_good
def t1 (x : AV) : SR := ⟨x, [], far, [], false⟩
theorem do_ADC (a x y s p m : Int) : ev C0 Φ3 10 8 [i64 0, aluV a x y s p m] [] = some (t1 (fDo 0 a x y s p m)) := by kernel_rfl
theorem do_ASL (a x y s p m : Int) : ev C0 Φ3 10 8 [i64 2, aluV a x y s p m] [] = some (t1 (fDo 2 a x y s p m)) := by kernel_rfl
theorem do_CLC (a x y s p m : Int) : ev C0 Φ3 10 8 [i64 13, aluV a x y s p m] [] = some (t1 (fDo 13 a x y s p m)) := by kernel_rfl
theorem do_CLD (a x y s p m : Int) : ev C0 Φ3 10 8 [i64 14, aluV a x y s p m] [] = some (t1 (fDo 14 a x y s p m)) := by kernel_rfl
theorem do_CMP (a x y s p m : Int) : ev C0 Φ3 10 8 [i64 17, aluV a x y s p m] [] = some (t1 (fDo 17 a x y s p m)) := by kernel_rfl
theorem do_DEX (a x y s p m : Int) : ev C0 Φ3 10 8 [i64 21, aluV a x y s p m] [] = some (t1 (fDo 21 a x y s p m)) := by kernel_rfl
theorem do_INC (a x y s p m : Int) : ev C0 Φ3 10 8 [i64 24, aluV a x y s p m] [] = some (t1 (fDo 24 a x y s p m)) := by kernel_rfl
theorem do_LDA (a x y s p m : Int) : ev C0 Φ3 10 8 [i64 29, aluV a x y s p m] [] = some (t1 (fDo 29 a x y s p m)) := by kernel_rfl
theorem do_LDX (a x y s p m : Int) : ev C0 Φ3 10 8 [i64 30, aluV a x y s p m] [] = some (t1 (fDo 30 a x y s p m)) := by kernel_rfl
theorem do_LSR (a x y s p m : Int) : ev C0 Φ3 10 8 [i64 32, aluV a x y s p m] [] = some (t1 (fDo 32 a x y s p m)) := by kernel_rfl
theorem do_ROL (a x y s p m : Int) : ev C0 Φ3 10 8 [i64 39, aluV a x y s p m] [] = some (t1 (fDo 39 a x y s p m)) := by kernel_rfl
theorem do_ROR (a x y s p m : Int) : ev C0 Φ3 10 8 [i64 40, aluV a x y s p m] [] = some (t1 (fDo 40 a x y s p m)) := by kernel_rfl
theorem do_SBC (a x y s p m : Int) : ev C0 Φ3 10 8 [i64 43, aluV a x y s p m] [] = some (t1 (fDo 43 a x y s p m)) := by kernel_rfl

def memI (x : Int) : List Int → Bool
  | [] => false
  | y :: l => if x == y then true else memI x l
theorem memI_ok {x : Int} : ∀ {l : List Int}, memI x l = true → x ∈ l
  | [], h => by cases h
  | y :: l, h => by
    simp only [memI] at h
    split at h
    · rename_i hh; rw [eq_of_beq hh]; exact List.mem_cons_self
    · exact List.mem_cons_of_mem _ (memI_ok h)
def sDo13 : List AV → Option AV
  | [.ac (.one (.val (.int .i64 op))), .ac (.agg [.c (.val (.int .u8 a)), .c (.val (.int .u8 x)), .c (.val (.int .u8 y)), .c (.val (.int .u8 s)), .c (.val (.int .u8 p)), .c (.val (.int .u8 m))])] =>
    if memI op [0, 2, 13, 14, 17, 21, 24, 29, 30, 32, 39, 40, 43] then some (fDo op a x y s p m) else none
  | _ => none
theorem do_all (op a x y s p m : Int) (h : op ∈ ([0, 2, 13, 14, 17, 21, 24, 29, 30, 32, 39, 40, 43] : List Int)) : ev C0 Φ3 10 8 [i64 op, aluV a x y s p m] [] = some (t1 (fDo op a x y s p m)) := by
  simp only [List.mem_cons, List.not_mem_nil, or_false] at h
  rcases h with rfl | rfl | rfl | rfl | rfl | rfl | rfl | rfl | rfl | rfl | rfl | rfl | rfl
  · exact do_ADC a x y s p m
  · exact do_ASL a x y s p m
  · exact do_CLC a x y s p m
  · exact do_CLD a x y s p m
  · exact do_CMP a x y s p m
  · exact do_DEX a x y s p m
  · exact do_INC a x y s p m
  · exact do_LDA a x y s p m
  · exact do_LDX a x y s p m
  · exact do_LSR a x y s p m
  · exact do_ROL a x y s p m
  · exact do_ROR a x y s p m
  · exact do_SBC a x y s p m
theorem do_good : Good C0 8 (pureS sDo13) := good_pure fun args v h => by
  unfold sDo13 at h
  split at h
  · rename_i op a x y s p m
    generalize hv : fDo op a x y s p m = z at h
    split at h
    · rename_i hm
      cases h; subst hv; exact ⟨rfl, pure_ev ok k3 (do_all _ _ _ _ _ _ _ (memI_ok hm))⟩
    · cases h
  · cases h

def Φ4 : Known := ⟨(8, pureS sDo13) :: Φ3.fs, []⟩
theorem k4 : Knows C0 Φ4 := .f k3 do_good
end T5

open Go Ev
namespace T5
def iv (x : Int) : Seg := .c (.val (.int .u8 x))
def hp (A X Y S P M : Int) : Heap := [⟨true, 0, [iv A, iv X, iv Y, iv S, iv P, iv M]⟩]
def fr3 (a b low i : Int) : List (Nat × AV) := [(0, u8 a), (1, u8 b), (6, boo false), (7, .ac (.one (.ptr 0 0))), (8, u8 low), (9, i64 i)]
def inv3 (a b A X Y S P M low i : Int) : St := ⟨mkF (fr3 a b low i) 62 0, hp A X Y S P M, 0, []⟩
def zOf (X' P i : Int) : Bool := !(((bAnd .u8 (fNz X' P) 2 != 0) == false) == iLt i 7)
def leaf (a b X Y S low i A1 P1 : Int) : Option (Ex × St) :=
  cond (zOf (IntKind.u8.wrap (X + 255)) (m2 A1 P1 low).2.1 i)
    (some (.ret, inv3 a b (m2 A1 P1 low).1 (IntKind.u8.wrap (X + 255)) Y S (fNz (IntKind.u8.wrap (X + 255)) (m2 A1 P1 low).2.1) 0 (m2 A1 P1 low).2.2 i))
    (some (.normal, inv3 a b (m2 A1 P1 low).1 (IntKind.u8.wrap (X + 255)) Y S (fNz (IntKind.u8.wrap (X + 255)) (m2 A1 P1 low).2.1) 0 (m2 A1 P1 low).2.2 (IntKind.i64.wrap (i + 1))))
theorem body3 (a b A X Y S P M low i : Int) : evL C0 Φ4 10 3 0 [0,1,6,7,8,9] (inv3 a b A X Y S P M low i) =
    cond (iLt i 8) (cond ((bAnd .u8 P 1 != 0) == true) (leaf a b X Y S low i (fAdc A b (fPut P 1 false)).1 (fAdc A b (fPut P 1 false)).2) (leaf a b X Y S low i A P)) (some (.exit 0, inv3 a b A X Y S P M low i)) := by kernel_rfl

theorem zOf_false {X' P i : Int} (h : X' = 7 - i) (h8 : i < 8) : zOf X' P i = false := by
  unfold zOf
  rw [and2, bit_fNz 1 (by omega)]
  simp only [if_true, iLt]
  subst h
  rcases Int.lt_or_eq_of_le (show i ≤ 7 by omega) with h | h
  · have h1 : (7 - i == 0) = false := by simp; omega
    have h2 : decide (i < 7) = true := by simp [h]
    rw [h1, h2]; rfl
  · subst h; rfl

theorem step3 {a b A Y S P M low i : Int} (h0 : 0 ≤ i) (h8 : i < 8) : LStep C0 3 0 (inv3 a b A (8 - i) Y S P M low i) .normal
    (inv3 a b (mN b (7 - i) (A, P, low)).1 (7 - i) Y S (mN b (7 - i) (A, P, low)).2.1 0 (mN b (7 - i) (A, P, low)).2.2 (i + 1)) := by
  refine evL_step ok k4 (?_ : evL C0 Φ4 10 3 0 [0,1,6,7,8,9] _ = _) rfl
  rw [body3]
  have h1 : iLt i 8 = true := by simp [iLt, h8]
  have hx : IntKind.u8.wrap (8 - i + 255) = 7 - i := by rw [wrap8]; omega
  have hi : IntKind.i64.wrap (i + 1) = i + 1 := wrap64 (by omega) (by omega)
  have hl : ∀ A1 P1, leaf a b (8 - i) Y S low i A1 P1 = some (.normal, inv3 a b (m2 A1 P1 low).1 (7 - i) Y S (fNz (7 - i) (m2 A1 P1 low).2.1) 0 (m2 A1 P1 low).2.2 (i + 1)) := fun A1 P1 => by
    unfold leaf; rw [hx, hi, zOf_false rfl h8]; rfl
  rw [h1, hl, hl, and1]
  unfold mN mA mP
  cases bit 0 P <;> rfl

theorem rounds3 {a b Y S : Int} : ∀ (n : Nat) (i : Int) (q : Int × Int × Int), 0 ≤ i → i + n = 8 → LRun C0 3 0 (inv3 a b q.1 (8 - i) Y S q.2.1 0 q.2.2 i) (.exit 0) (inv3 a b (mF b n (8 - i) q).1 0 Y S (mF b n (8 - i) q).2.1 0 (mF b n (8 - i) q).2.2 8)
  | 0, i, q, h0, hn => by
    have : i = 8 := by omega
    subst this
    refine .exit (evL_step ok k4 (?_ : evL C0 Φ4 10 3 0 [0,1,6,7,8,9] _ = _) rfl)
    rw [body3]; rfl
  | n + 1, i, q, h0, hn => by
    have h1 := step3 (a := a) (b := b) (A := q.1) (Y := Y) (S := S) (P := q.2.1) (M := 0) (low := q.2.2) h0 (by omega)
    have h2 := rounds3 (a := a) (b := b) (Y := Y) (S := S) n (i + 1) (mN b (7 - i) q) (by omega) (by omega)
    rw [show 8 - (i + 1) = 7 - i by omega] at h2
    refine .step h1 ?_
    show LRun C0 3 0 _ _ (inv3 a b (mF b n (8 - i - 1) (mN b (8 - i - 1) q)).1 0 Y S (mF b n (8 - i - 1) (mN b (8 - i - 1) q)).2.1 0 (mF b n (8 - i - 1) (mN b (8 - i - 1) q)).2.2 8)
    rw [show 8 - i - 1 = 7 - i by omega]
    exact h2

theorem mul_loop {a b A Y S P M low : Int} : LRun C0 3 0 (inv3 a b A 8 Y S P M low 0) (.exit 0) (inv3 a b (mF b 8 8 (A, P, low)).1 0 Y S (mF b 8 8 (A, P, low)).2.1 0 (mF b 8 8 (A, P, low)).2.2 8) :=
  .step (step3 (a := a) (b := b) (A := A) (Y := Y) (S := S) (P := P) (M := M) (low := low) (i := 0) (by omega) (by omega))
    (rounds3 (a := a) (b := b) (Y := Y) (S := S) 7 1 (mN b 7 (A, P, low)) (by omega) (by omega))

def S3 : LS := fun s => match pull [0,1,6,7,8,9] s.fr, s.h, s.mv with
  | some [(_, .ac (.one (.val (.int .u8 a)))), (_, .ac (.one (.val (.int .u8 b)))), (_, .ac (.one (.val (.bool false)))), (_, .ac (.one (.ptr 0 0))), (_, .ac (.one (.val (.int .u8 low)))), (_, .ac (.one (.val (.int .i64 i))))],
    [⟨true, 0, [.c (.val (.int .u8 A)), .c (.val (.int .u8 X)), .c (.val (.int .u8 Y)), .c (.val (.int .u8 S)), .c (.val (.int .u8 P)), .c (.val (.int .u8 M))]⟩], [] =>
    if s.fr.length = 62 then (if i = 0 then (if X = 8 then some (.exit 0, inv3 a b (mF b 8 8 (A, P, low)).1 0 Y S (mF b 8 8 (A, P, low)).2.1 0 (mF b 8 8 (A, P, low)).2.2 8) else none) else none) else none
  | _, _, _ => none

theorem pull_keys : ∀ {keep : List Nat} {fr : Fr} {l : List (Nat × AV)}, pull keep fr = some l → l.map (·.1) = keep
  | [], fr, l, h => by cases h; rfl
  | k :: ks, fr, l, h => by
    simp only [pull] at h
    obtain ⟨x, hx, h⟩ := getK_inv h
    split at h
    · rename_i l' hl'; cases h; simp [pull_keys hl']
    · cases h

theorem S3_good : LGood C0 3 0 S3 := by
  intro s e s' h
  unfold S3 at h
  split at h
  · rename_i hp hh hm
    split at h
    · rename_i hl
      split at h
      · rename_i hi
        split at h
        · rename_i hx
          subst hi; subst hx
          cases h
          have hk := pull_keys hp
          simp at hk
          obtain ⟨rfl, rfl, rfl, rfl, rfl, rfl⟩ := hk
          refine .weak hp (wr := 0) (Nat.zero_le _) ?_
          rw [hl, hh, hm]
          exact mul_loop
        · cases h
      · cases h
    · cases h
  · cases h
def Φ5 : Known := ⟨Φ4.fs, [(3, [(0, S3)])]⟩
theorem k5 : Knows C0 Φ5 := .l k4 (fun q hq => by simp at hq; subst hq; exact S3_good)
end T5

open Go Ev
namespace T5
def fr4 (hi lo d n i : Int) : List (Nat × AV) := [(0, u8 hi), (1, u8 lo), (2, u8 d), (8, boo false), (9, i64 n), (10, .ac (.one (.ptr 0 0))), (11, i64 i)]
def inv4 (hi lo d n A X Y S P M i : Int) : St := ⟨mkF (fr4 hi lo d n i) 80 0, hp A X Y S P M, 0, []⟩
def sub4 (hi lo d n X Y S i A P : Int) : Option (Ex × St) :=
  some (.normal, inv4 hi (IntKind.u8.wrap (lo + 1)) d n (fSbc A d P).1 X Y S (fNz (IntKind.u8.wrap (lo + 1)) (fSbc A d P).2) (IntKind.u8.wrap (lo + 1)) (IntKind.i64.wrap (i + 1)))
def leaf4 (hi lo d n X Y S i A P : Int) : Option (Ex × St) :=
  cond (!((bAnd .u8 P 1 != 0) == true)) (cond ((bAnd .u8 (fCmp A d P) 1 != 0) == false) (some (.normal, inv4 hi lo d n A X Y S (fCmp A d P) d (IntKind.i64.wrap (i + 1)))) (sub4 hi lo d n X Y S i A (fCmp A d P))) (sub4 hi lo d n X Y S i A P)
theorem body4 (hi lo d n A X Y S P M i : Int) : evL C0 Φ4 10 4 0 [0,1,2,8,9,10,11] (inv4 hi lo d n A X Y S P M i) =
    cond (iLt i 16) (leaf4 (fShR 39 hi (fShP 2 lo P)) (fShR 2 lo P) d n X Y S i (fShR 39 A (fShP 39 hi (fShP 2 lo P))) (fShP 39 A (fShP 39 hi (fShP 2 lo P)))) (some (.exit 0, inv4 hi lo d n A X Y S P M i)) := by kernel_rfl

theorem step4 {d n X Y S M i : Int} (s : DS) (h0 : 0 ≤ i) (h8 : i < 16) : ∃ M', LStep C0 4 0 (inv4 s.hi s.lo d n s.a X Y S s.p M i) .normal
    (inv4 (dN d s).hi (dN d s).lo d n (dN d s).a X Y S (dN d s).p M' (i + 1)) := by
  have h1 : iLt i 16 = true := by simp [iLt, h8]
  have hi : IntKind.i64.wrap (i + 1) = i + 1 := wrap64 (by omega) (by omega)
  have key : ∃ M', leaf4 (dH s) (dL s) d n X Y S i (dA s) (dP s) = some (.normal, inv4 (dN d s).hi (dN d s).lo d n (dN d s).a X Y S (dN d s).p M' (i + 1)) := by
    unfold leaf4 sub4 dN dSub
    rw [and1, and1, hi]
    cases bit 0 (dP s) with
    | true => exact ⟨_, rfl⟩
    | false =>
      cases bit 0 (fCmp (dA s) d (dP s)) with
      | true => exact ⟨_, rfl⟩
      | false => exact ⟨_, rfl⟩
  obtain ⟨M', hk⟩ := key
  refine ⟨M', evL_step ok k4 (?_ : evL C0 Φ4 10 4 0 [0,1,2,8,9,10,11] _ = _) rfl⟩
  rw [body4, h1]
  exact hk

theorem rounds4 {d n X Y S : Int} : ∀ (k : Nat) (i M : Int) (s : DS), 0 ≤ i → i + k = 16 → ∃ M', LRun C0 4 0 (inv4 s.hi s.lo d n s.a X Y S s.p M i) (.exit 0) (inv4 (dF d k s).hi (dF d k s).lo d n (dF d k s).a X Y S (dF d k s).p M' 16)
  | 0, i, M, s, h0, hn => by
    have : i = 16 := by omega
    subst this
    refine ⟨M, .exit (evL_step ok k4 (?_ : evL C0 Φ4 10 4 0 [0,1,2,8,9,10,11] _ = _) rfl)⟩
    rw [body4]; rfl
  | k + 1, i, M, s, h0, hn => by
    obtain ⟨M1, h1⟩ := step4 (d := d) (n := n) (X := X) (Y := Y) (S := S) (M := M) s h0 (by omega)
    obtain ⟨M2, h2⟩ := rounds4 (d := d) (n := n) (X := X) (Y := Y) (S := S) k (i + 1) M1 (dN d s) (by omega) (by omega)
    exact ⟨M2, .step h1 h2⟩

/-- what M is in the end bears on nothing: it is chosen -/
noncomputable def mEnd (d n X Y S M : Int) (s : DS) : Int := Classical.choose (rounds4 (d := d) (n := n) (X := X) (Y := Y) (S := S) 16 0 M s (by omega) (by omega))

noncomputable def S4 : LS := fun s => match pull [0,1,2,8,9,10,11] s.fr, s.h, s.mv with
  | some [(_, .ac (.one (.val (.int .u8 hi)))), (_, .ac (.one (.val (.int .u8 lo)))), (_, .ac (.one (.val (.int .u8 d)))), (_, .ac (.one (.val (.bool false)))), (_, .ac (.one (.val (.int .i64 n)))), (_, .ac (.one (.ptr 0 0))), (_, .ac (.one (.val (.int .i64 i))))],
    [⟨true, 0, [.c (.val (.int .u8 A)), .c (.val (.int .u8 X)), .c (.val (.int .u8 Y)), .c (.val (.int .u8 S)), .c (.val (.int .u8 P)), .c (.val (.int .u8 M))]⟩], [] =>
    if s.fr.length = 80 then (if i = 0 then some (.exit 0, inv4 (dF d 16 ⟨hi, lo, A, P⟩).hi (dF d 16 ⟨hi, lo, A, P⟩).lo d n (dF d 16 ⟨hi, lo, A, P⟩).a X Y S (dF d 16 ⟨hi, lo, A, P⟩).p (mEnd d n X Y S M ⟨hi, lo, A, P⟩) 16) else none) else none
  | _, _, _ => none

theorem S4_good : LGood C0 4 0 S4 := by
  intro s e s' h
  unfold S4 at h
  split at h
  · rename_i hp hh hm
    split at h
    · rename_i hl
      split at h
      · rename_i hi
        subst hi
        cases h
        have hk := pull_keys hp
        simp at hk
        obtain ⟨rfl, rfl, rfl, rfl, rfl, rfl, rfl⟩ := hk
        refine .weak hp (wr := 0) (Nat.zero_le _) ?_
        rw [hl, hh, hm]
        exact Classical.choose_spec (rounds4 16 0 _ ⟨_, _, _, _⟩ (by omega) (by omega))
      · cases h
    · cases h
  · cases h
noncomputable def Φ6 : Known := ⟨Φ4.fs, [(4, [(0, S4)])]⟩
theorem k6 : Knows C0 Φ6 := .l k4 (fun q hq => by simp at hq; subst hq; exact S4_good)
end T5

open Go Ev Go.RowKit
namespace T5
def ds0 (a b p : Int) : DS := ⟨a, b, 0, fNz 0 (fPut p 8 false)⟩
theorem div_ev0 (a b d p : Int) : ev C0 Φ6 10 4 [u8 a, u8 b, u8 d, u8 p] [] =
  cond (d == 0) (some ⟨boo true, [], far, [], false⟩)
    (cond (IntKind.i64.wrap d == 0) none
      (cond (IntKind.i64.wrap (IntKind.i64.wrap (256 * IntKind.i64.wrap (dF d 16 (ds0 a b p)).hi) + IntKind.i64.wrap (dF d 16 (ds0 a b p)).lo) == IntKind.i64.wrap ((IntKind.i64.wrap (IntKind.i64.wrap (256 * IntKind.i64.wrap a) + IntKind.i64.wrap b)).tdiv (IntKind.i64.wrap d)))
        (cond (IntKind.i64.wrap d == 0) none
          (some ⟨boo (IntKind.i64.wrap (dF d 16 (ds0 a b p)).a == (IntKind.i64.wrap (IntKind.i64.wrap (256 * IntKind.i64.wrap a) + IntKind.i64.wrap b)).tmod (IntKind.i64.wrap d)), [], far, [], false⟩))
        (some ⟨boo false, [], far, [], false⟩))) := by kernel_rfl

theorem div_ev {a b d : Int} (p : Int) (ha : U8 a) (hb : U8 b) (hd : U8 d) : ev C0 Φ6 10 4 [u8 a, u8 b, u8 d, u8 p] [] = some ⟨boo true, [], far, [], false⟩ := by
  rw [div_ev0]
  by_cases h0 : d = 0
  · subst h0; rfl
  have hd1 : 0 < d := by have := hd.1; omega
  have hs : DOk d (ds0 a b p) := ⟨ha, hb, Int.le_refl 0, hd1, by
    show bit 3 (fNz 0 (fPut p 8 false)) = false
    rw [(nz_keep _ _).2, bit_fPut 3 (by omega), show bit 3 8 = true by decide]; rfl⟩
  obtain ⟨h1, h2, h3⟩ := div_ok hd hd1 hs rfl
  have hh := h3.h; have hl := h3.l; have hA0 := h3.a0; have hA := h3.a
  have hn : hOf (ds0 a b p) = 256 * a + b := rfl
  rw [hn] at h1 h2
  have h1' : 256 * (dF d 16 (ds0 a b p)).hi + (dF d 16 (ds0 a b p)).lo = (256 * a + b) / d := h1
  generalize dF d 16 (ds0 a b p) = z at *
  unfold U8 at ha hb hd hh hl
  have hw : IntKind.i64.wrap d = d := wrap64 (by omega) (by omega)
  have hwn : IntKind.i64.wrap (IntKind.i64.wrap (256 * IntKind.i64.wrap a) + IntKind.i64.wrap b) = 256 * a + b := by
    rw [wrap64 (x := a) (by omega) (by omega), wrap64 (x := 256 * a) (by omega) (by omega), wrap64 (x := b) (by omega) (by omega), wrap64 (by omega) (by omega)]
  have hwz : IntKind.i64.wrap (IntKind.i64.wrap (256 * IntKind.i64.wrap z.hi) + IntKind.i64.wrap z.lo) = 256 * z.hi + z.lo := by
    rw [wrap64 (x := z.hi) (by omega) (by omega), wrap64 (x := 256 * z.hi) (by omega) (by omega), wrap64 (x := z.lo) (by omega) (by omega), wrap64 (by omega) (by omega)]
  have hwa : IntKind.i64.wrap z.a = z.a := wrap64 (by omega) (by omega)
  rw [hw, hwn, hwz, hwa, Int.tdiv_eq_ediv_of_nonneg (by omega), Int.tmod_eq_emod_of_nonneg (by omega), h1', h2]
  have hq : IntKind.i64.wrap ((256 * a + b) / d) = (256 * a + b) / d := by rw [← h1']; exact wrap64 (by omega) (by omega)
  rw [hq]
  have hdf : (d == 0) = false := by simp [h0]
  rw [hdf]
  simp

theorem walk4 (a b d p : Int) (ha : U8 a) (hb : U8 b) (hd : U8 d) (w : World) :
    Calls Go.Proofs.Try.prog 4 #[.int .u8 a, .int .u8 b, .int .u8 d, .int .u8 p] w fun e w' => e = .returned (.bool true) ∧ Below w.heap.size w w' :=
  calls_of_pure (ev_good ok k6 10 4 _ _ _ (div_ev p ha hb hd)) (vs := [.int .u8 a, .int .u8 b, .int .u8 d, .int .u8 p]) (fun α => .cons (.ac (.one (.val _ rfl))) (.cons (.ac (.one (.val _ rfl))) (.cons (.ac (.one (.val _ rfl))) (.cons (.ac (.one (.val _ rfl))) .nil)))) (fun x hx => by
    simp at hx
    rcases hx with rfl | rfl | rfl | rfl <;> exact ⟨trivial, trivial⟩) w
end T5
