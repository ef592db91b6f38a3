/-
  The function AluFreed returns true for every op, every Alu of bytes and every n, where the table of flags lies in the world as the text lays it.
-/
import Derived.Test.YtoklelancnkkpaaDoorAluM
import Derived.Test.YtoklelancnkkpaaDoorChecked
import Derived.Test.YtoklelancnkkpaaDoorRows
set_option autoImplicit false
set_option linter.unusedVariables false
set_option linter.unusedSimpArgs false
open Go Ev
namespace WTryd
noncomputable abbrev P : Program := Go.Proofs.Tryd.prog
/-- no package variables -/
noncomputable abbrev C0 : Cfg := ⟨P, [], []⟩
theorem ok : ProgOk P := progOk_of (C := Go.Proofs.Tryd.checked) 400 (by kernel_rfl) (by kernel_rfl) (by kernel_rfl)
theorem s0 : Sub C0 C0 := .refl .nil

/-- a function of integers -/
theorem good0 {Φ : Known} (k : Knows C0 Φ) {f : Nat} {F : List AV → Option AV} (h : ∀ args v, F args = some v → refsAVs args = [] ∧ ev C0 Φ 10 f args [] = some ⟨v, [], [], false⟩) : Good C0 f (pureS F) :=
  pure_good s0 rfl fun args v hv => ⟨(h args v hv).1, pure_ev ok k (h args v hv).2⟩

theorem goodS {C : Cfg} (S : Sub C0 C) {Φ : Known} (k : Knows C0 Φ) {f : Nat} {F : List AV → Option AV} (h : ∀ args v, F args = some v → refsAVs args = [] ∧ ev C0 Φ 10 f args [] = some ⟨v, [], [], false⟩) : Good C f (pureS F) :=
  pure_good S rfl fun args v hv => ⟨(h args v hv).1, pure_ev ok k (h args v hv).2⟩

theorem nz_ev (r p : Int) : ev C0 ⟨[], []⟩ 10 41 [u8 r, u8 p] [] = cond (r == 0) (qt C0 (u8 (bOr .u8 (bOr .u8 (bAndNot .u8 p 130) 2) (bAnd .u8 r 128)))) (qt C0 (u8 (bOr .u8 (bAndNot .u8 p 130) (bAnd .u8 r 128)))) := by kernel_rfl
theorem put_ev (p f : Int) (s : Bool) : ev C0 ⟨[], []⟩ 10 42 [u8 p, u8 f, boo s] [] = cond s (qt C0 (u8 (bOr .u8 p f))) (qt C0 (u8 (bAndNot .u8 p f))) := by kernel_rfl
theorem nz_good : Good C0 41 (pureS sNz) := good0 (.none _) fun args v h => by
  unfold sNz at h
  split at h
  · rename_i r p; cases h; refine ⟨rfl, ?_⟩; rw [nz_ev, cond_qt]; unfold fNz; cases r == 0 <;> rfl
  · cases h
theorem put_good : Good C0 42 (pureS sPut) := good0 (.none _) fun args v h => by
  unfold sPut at h
  split at h
  · rename_i p f s; cases h; refine ⟨rfl, ?_⟩; rw [put_ev, cond_qt]; unfold fPut; cases s <;> rfl
  · cases h
noncomputable def Φ1 : Known := ⟨[(41, pureS sNz), (42, pureS sPut)], []⟩
theorem k1 : Knows C0 Φ1 := .f (.f (.none _) put_good) nz_good

noncomputable abbrev t2 (x : Int × Int) : Option SR := qt C0 (tup2 x.1 x.2)
theorem cond_t2 {b : Bool} {x y : Int × Int} : cond b (t2 x) (t2 y) = t2 (cond b x y) := by cases b <;> rfl
theorem adc_ev (a m p : Int) : ev C0 Φ1 10 53 [u8 a, u8 m, u8 p] [] =
    cond (bAnd .u8 p 8 == 0) (t2 (adcB a m p))
    (cond (iLt 9 (adcL a m p))
      (cond (iLe 160 (adcS a m (adcH (adcL a m p)))) (t2 (adcD a m p (adcS a m (adcH (adcL a m p))) (adcT (adcS a m (adcH (adcL a m p)))))) (t2 (adcD a m p (adcS a m (adcH (adcL a m p))) (adcS a m (adcH (adcL a m p))))))
      (cond (iLe 160 (adcS a m (adcL a m p))) (t2 (adcD a m p (adcS a m (adcL a m p)) (adcT (adcS a m (adcL a m p))))) (t2 (adcD a m p (adcS a m (adcL a m p)) (adcS a m (adcL a m p)))))) := by kernel_rfl
theorem sbc_ev (a m p : Int) : ev C0 Φ1 10 54 [u8 a, u8 m, u8 p] [] =
    cond (bAnd .u8 p 8 == 0) (t2 (IntKind.u8.wrap (fDif a m p), sbcP a m p))
    (cond (iLt (sbcL a m p) 0)
      (cond (iLt (sbcS a m (sbcH (sbcL a m p))) 0) (t2 (IntKind.u8.wrap (sbcT (sbcS a m (sbcH (sbcL a m p)))), sbcP a m p)) (t2 (IntKind.u8.wrap (sbcS a m (sbcH (sbcL a m p))), sbcP a m p)))
      (cond (iLt (sbcS a m (sbcL a m p)) 0) (t2 (IntKind.u8.wrap (sbcT (sbcS a m (sbcL a m p))), sbcP a m p)) (t2 (IntKind.u8.wrap (sbcS a m (sbcL a m p)), sbcP a m p)))) := by kernel_rfl
theorem arr_ev (a m p : Int) : ev C0 Φ1 10 55 [u8 a, u8 m, u8 p] [] =
  cond (bAnd .u8 p 8 == 0) (t2 (arrR a m p, arrB a m p))
    (cond (arrL a m)
      (cond (arrH a m) (t2 (IntKind.u8.wrap (arrO (arrR a m p) + 96), fPut (arrQ a m p) 1 (arrH a m))) (t2 (arrO (arrR a m p), fPut (arrQ a m p) 1 (arrH a m))))
      (cond (arrH a m) (t2 (IntKind.u8.wrap (arrR a m p + 96), fPut (arrQ a m p) 1 (arrH a m))) (t2 (arrR a m p, fPut (arrQ a m p) 1 (arrH a m))))) := by kernel_rfl
theorem cmp_ev (r m p : Int) : ev C0 Φ1 10 65 [u8 r, u8 m, u8 p] [] = qt C0 (u8 (fCmp r m p)) := by kernel_rfl
theorem adc_good : Good C0 53 (pureS sAdc) := good0 k1 fun args v h => by
  unfold sAdc at h
  split at h
  · cases h; refine ⟨rfl, ?_⟩; rw [adc_ev]; simp only [cond_t2]; rfl
  · cases h
theorem sbc_good : Good C0 54 (pureS sSbc) := good0 k1 fun args v h => by
  unfold sSbc at h
  split at h
  · rename_i a m p; cases h; refine ⟨rfl, ?_⟩; rw [sbc_ev]; simp only [cond_t2]; unfold fSbc sbcR
    cases (bAnd .u8 p 8 == 0) <;> cases (iLt (sbcL a m p) 0) <;> cases (iLt (sbcS a m (sbcH (sbcL a m p))) 0) <;> cases (iLt (sbcS a m (sbcL a m p)) 0) <;> rfl
  · cases h
theorem arr_good : Good C0 55 (pureS sArr) := good0 k1 fun args v h => by
  unfold sArr at h
  split at h
  · cases h; refine ⟨rfl, ?_⟩; rw [arr_ev]; simp only [cond_t2]; rfl
  · cases h
theorem cmp_good : Good C0 65 (pureS sCmp) := good0 k1 fun args v h => by
  unfold sCmp at h
  split at h
  · cases h; exact ⟨rfl, cmp_ev _ _ _⟩
  · cases h
theorem shift2_ev (m p : Int) : ev C0 Φ1 10 21 [i64 2, u8 m, u8 p] [] = t2 (fShR 2 m p, fShP 2 m p) := by kernel_rfl
theorem shift32_ev (m p : Int) : ev C0 Φ1 10 21 [i64 32, u8 m, u8 p] [] = t2 (fShR 32 m p, fShP 32 m p) := by kernel_rfl
theorem shift39_ev (m p : Int) : ev C0 Φ1 10 21 [i64 39, u8 m, u8 p] [] = t2 (fShR 39 m p, fShP 39 m p) := by kernel_rfl
theorem shift40_ev (m p : Int) : ev C0 Φ1 10 21 [i64 40, u8 m, u8 p] [] = t2 (fShR 40 m p, fShP 40 m p) := by kernel_rfl
theorem shift_good : Good C0 21 (pureS sShift) := good0 k1 fun args v h => by
  unfold sShift at h
  split at h
  · split at h
    · rename_i e; cases h; subst e; exact ⟨rfl, shift2_ev _ _⟩
    · split at h
      · rename_i e; cases h; subst e; exact ⟨rfl, shift32_ev _ _⟩
      · split at h
        · rename_i e; cases h; subst e; exact ⟨rfl, shift39_ev _ _⟩
        · split at h
          · rename_i e; cases h; subst e; exact ⟨rfl, shift40_ev _ _⟩
          · cases h
  · cases h
noncomputable def Φ3 : Known := ⟨[(41, pureS sNz), (42, pureS sPut), (53, pureS sAdc), (54, pureS sSbc), (55, pureS sArr), (65, pureS sCmp), (21, pureS sShift)], []⟩
theorem k3 : Knows C0 Φ3 := .f (.f (.f (.f (.f (.f (.f (.none _) shift_good) cmp_good) arr_good) sbc_good) adc_good) put_good) nz_good

/-- the deeds -/
abbrev DoIs (op a x y s p m : Int) : Prop := ev C0 Φ3 10 14 [i64 op, aluA ⟨a, x, y, s, p, m⟩] [] = qt C0 (aluA (dO op ⟨a, x, y, s, p, m⟩))
theorem doN (n : Nat) (a x y s p m : Int) : DoIs (.negSucc n) a x y s p m := by unfold DoIs; kernel_rfl
theorem doB (n : Nat) (a x y s p m : Int) : DoIs (.ofNat (n + 70)) a x y s p m := by unfold DoIs; kernel_rfl
theorem do0 (a x y s p m : Int) : DoIs 0 a x y s p m := by unfold DoIs; kernel_rfl
theorem do1 (a x y s p m : Int) : DoIs 1 a x y s p m := by unfold DoIs; kernel_rfl
theorem do2 (a x y s p m : Int) : DoIs 2 a x y s p m := by unfold DoIs; kernel_rfl
theorem do3 (a x y s p m : Int) : DoIs 3 a x y s p m := by unfold DoIs; kernel_rfl
theorem do4 (a x y s p m : Int) : DoIs 4 a x y s p m := by unfold DoIs; kernel_rfl
theorem do5 (a x y s p m : Int) : DoIs 5 a x y s p m := by unfold DoIs; kernel_rfl
theorem do6 (a x y s p m : Int) : DoIs 6 a x y s p m := by unfold DoIs; kernel_rfl
theorem do7 (a x y s p m : Int) : DoIs 7 a x y s p m := by unfold DoIs; kernel_rfl
theorem do8 (a x y s p m : Int) : DoIs 8 a x y s p m := by unfold DoIs; kernel_rfl
theorem do9 (a x y s p m : Int) : DoIs 9 a x y s p m := by unfold DoIs; kernel_rfl
theorem do10 (a x y s p m : Int) : DoIs 10 a x y s p m := by unfold DoIs; kernel_rfl
theorem do11 (a x y s p m : Int) : DoIs 11 a x y s p m := by unfold DoIs; kernel_rfl
theorem do12 (a x y s p m : Int) : DoIs 12 a x y s p m := by unfold DoIs; kernel_rfl
theorem do13 (a x y s p m : Int) : DoIs 13 a x y s p m := by unfold DoIs; kernel_rfl
theorem do14 (a x y s p m : Int) : DoIs 14 a x y s p m := by unfold DoIs; kernel_rfl
theorem do15 (a x y s p m : Int) : DoIs 15 a x y s p m := by unfold DoIs; kernel_rfl
theorem do16 (a x y s p m : Int) : DoIs 16 a x y s p m := by unfold DoIs; kernel_rfl
theorem do17 (a x y s p m : Int) : DoIs 17 a x y s p m := by unfold DoIs; kernel_rfl
theorem do18 (a x y s p m : Int) : DoIs 18 a x y s p m := by unfold DoIs; kernel_rfl
theorem do19 (a x y s p m : Int) : DoIs 19 a x y s p m := by unfold DoIs; kernel_rfl
theorem do20 (a x y s p m : Int) : DoIs 20 a x y s p m := by unfold DoIs; kernel_rfl
theorem do21 (a x y s p m : Int) : DoIs 21 a x y s p m := by unfold DoIs; kernel_rfl
theorem do22 (a x y s p m : Int) : DoIs 22 a x y s p m := by unfold DoIs; kernel_rfl
theorem do23 (a x y s p m : Int) : DoIs 23 a x y s p m := by unfold DoIs; kernel_rfl
theorem do24 (a x y s p m : Int) : DoIs 24 a x y s p m := by unfold DoIs; kernel_rfl
theorem do25 (a x y s p m : Int) : DoIs 25 a x y s p m := by unfold DoIs; kernel_rfl
theorem do26 (a x y s p m : Int) : DoIs 26 a x y s p m := by unfold DoIs; kernel_rfl
theorem do27 (a x y s p m : Int) : DoIs 27 a x y s p m := by unfold DoIs; kernel_rfl
theorem do28 (a x y s p m : Int) : DoIs 28 a x y s p m := by unfold DoIs; kernel_rfl
theorem do29 (a x y s p m : Int) : DoIs 29 a x y s p m := by unfold DoIs; kernel_rfl
theorem do30 (a x y s p m : Int) : DoIs 30 a x y s p m := by unfold DoIs; kernel_rfl
theorem do31 (a x y s p m : Int) : DoIs 31 a x y s p m := by unfold DoIs; kernel_rfl
theorem do32 (a x y s p m : Int) : DoIs 32 a x y s p m := by unfold DoIs; kernel_rfl
theorem do33 (a x y s p m : Int) : DoIs 33 a x y s p m := by unfold DoIs; kernel_rfl
theorem do34 (a x y s p m : Int) : DoIs 34 a x y s p m := by unfold DoIs; kernel_rfl
theorem do35 (a x y s p m : Int) : DoIs 35 a x y s p m := by unfold DoIs; kernel_rfl
theorem do36 (a x y s p m : Int) : DoIs 36 a x y s p m := by unfold DoIs; kernel_rfl
theorem do37 (a x y s p m : Int) : DoIs 37 a x y s p m := by unfold DoIs; kernel_rfl
theorem do38 (a x y s p m : Int) : DoIs 38 a x y s p m := by unfold DoIs; kernel_rfl
theorem do39 (a x y s p m : Int) : DoIs 39 a x y s p m := by unfold DoIs; kernel_rfl
theorem do40 (a x y s p m : Int) : DoIs 40 a x y s p m := by unfold DoIs; kernel_rfl
theorem do41 (a x y s p m : Int) : DoIs 41 a x y s p m := by unfold DoIs; kernel_rfl
theorem do42 (a x y s p m : Int) : DoIs 42 a x y s p m := by unfold DoIs; kernel_rfl
theorem do43 (a x y s p m : Int) : DoIs 43 a x y s p m := by unfold DoIs; kernel_rfl
theorem do44 (a x y s p m : Int) : DoIs 44 a x y s p m := by unfold DoIs; kernel_rfl
theorem do45 (a x y s p m : Int) : DoIs 45 a x y s p m := by unfold DoIs; kernel_rfl
theorem do46 (a x y s p m : Int) : DoIs 46 a x y s p m := by unfold DoIs; kernel_rfl
theorem do47 (a x y s p m : Int) : DoIs 47 a x y s p m := by unfold DoIs; kernel_rfl
theorem do48 (a x y s p m : Int) : DoIs 48 a x y s p m := by unfold DoIs; kernel_rfl
theorem do49 (a x y s p m : Int) : DoIs 49 a x y s p m := by unfold DoIs; kernel_rfl
theorem do50 (a x y s p m : Int) : DoIs 50 a x y s p m := by unfold DoIs; kernel_rfl
theorem do51 (a x y s p m : Int) : DoIs 51 a x y s p m := by unfold DoIs; kernel_rfl
theorem do52 (a x y s p m : Int) : DoIs 52 a x y s p m := by unfold DoIs; kernel_rfl
theorem do53 (a x y s p m : Int) : DoIs 53 a x y s p m := by unfold DoIs; kernel_rfl
theorem do54 (a x y s p m : Int) : DoIs 54 a x y s p m := by unfold DoIs; kernel_rfl
theorem do55 (a x y s p m : Int) : DoIs 55 a x y s p m := by unfold DoIs; kernel_rfl
theorem do56 (a x y s p m : Int) : DoIs 56 a x y s p m := by unfold DoIs; kernel_rfl
theorem do57 (a x y s p m : Int) : DoIs 57 a x y s p m := by unfold DoIs; kernel_rfl
theorem do58 (a x y s p m : Int) : DoIs 58 a x y s p m := by unfold DoIs; kernel_rfl
theorem do59 (a x y s p m : Int) : DoIs 59 a x y s p m := by unfold DoIs; kernel_rfl
theorem do60 (a x y s p m : Int) : DoIs 60 a x y s p m := by unfold DoIs; kernel_rfl
theorem do61 (a x y s p m : Int) : DoIs 61 a x y s p m := by unfold DoIs; kernel_rfl
theorem do62 (a x y s p m : Int) : DoIs 62 a x y s p m := by unfold DoIs; kernel_rfl
theorem do63 (a x y s p m : Int) : DoIs 63 a x y s p m := by unfold DoIs; kernel_rfl
theorem do64 (a x y s p m : Int) : DoIs 64 a x y s p m := by unfold DoIs; kernel_rfl
theorem do65 (a x y s p m : Int) : DoIs 65 a x y s p m := by unfold DoIs; kernel_rfl
theorem do66 (a x y s p m : Int) : DoIs 66 a x y s p m := by unfold DoIs; kernel_rfl
theorem do67 (a x y s p m : Int) : DoIs 67 a x y s p m := by unfold DoIs; kernel_rfl
theorem do68 (a x y s p m : Int) : DoIs 68 a x y s p m := by unfold DoIs; kernel_rfl
theorem do69 (a x y s p m : Int) : DoIs 69 a x y s p m := by unfold DoIs; kernel_rfl
theorem do_all (op a x y s p m : Int) : DoIs op a x y s p m := by
  rcases int70 op with ⟨n, rfl⟩ | ⟨n, rfl⟩ | ⟨n, hn, rfl⟩
  · exact doN n a x y s p m
  · exact doB n a x y s p m
  · match n, hn with
    | 0, _ => exact do0 a x y s p m
    | 1, _ => exact do1 a x y s p m
    | 2, _ => exact do2 a x y s p m
    | 3, _ => exact do3 a x y s p m
    | 4, _ => exact do4 a x y s p m
    | 5, _ => exact do5 a x y s p m
    | 6, _ => exact do6 a x y s p m
    | 7, _ => exact do7 a x y s p m
    | 8, _ => exact do8 a x y s p m
    | 9, _ => exact do9 a x y s p m
    | 10, _ => exact do10 a x y s p m
    | 11, _ => exact do11 a x y s p m
    | 12, _ => exact do12 a x y s p m
    | 13, _ => exact do13 a x y s p m
    | 14, _ => exact do14 a x y s p m
    | 15, _ => exact do15 a x y s p m
    | 16, _ => exact do16 a x y s p m
    | 17, _ => exact do17 a x y s p m
    | 18, _ => exact do18 a x y s p m
    | 19, _ => exact do19 a x y s p m
    | 20, _ => exact do20 a x y s p m
    | 21, _ => exact do21 a x y s p m
    | 22, _ => exact do22 a x y s p m
    | 23, _ => exact do23 a x y s p m
    | 24, _ => exact do24 a x y s p m
    | 25, _ => exact do25 a x y s p m
    | 26, _ => exact do26 a x y s p m
    | 27, _ => exact do27 a x y s p m
    | 28, _ => exact do28 a x y s p m
    | 29, _ => exact do29 a x y s p m
    | 30, _ => exact do30 a x y s p m
    | 31, _ => exact do31 a x y s p m
    | 32, _ => exact do32 a x y s p m
    | 33, _ => exact do33 a x y s p m
    | 34, _ => exact do34 a x y s p m
    | 35, _ => exact do35 a x y s p m
    | 36, _ => exact do36 a x y s p m
    | 37, _ => exact do37 a x y s p m
    | 38, _ => exact do38 a x y s p m
    | 39, _ => exact do39 a x y s p m
    | 40, _ => exact do40 a x y s p m
    | 41, _ => exact do41 a x y s p m
    | 42, _ => exact do42 a x y s p m
    | 43, _ => exact do43 a x y s p m
    | 44, _ => exact do44 a x y s p m
    | 45, _ => exact do45 a x y s p m
    | 46, _ => exact do46 a x y s p m
    | 47, _ => exact do47 a x y s p m
    | 48, _ => exact do48 a x y s p m
    | 49, _ => exact do49 a x y s p m
    | 50, _ => exact do50 a x y s p m
    | 51, _ => exact do51 a x y s p m
    | 52, _ => exact do52 a x y s p m
    | 53, _ => exact do53 a x y s p m
    | 54, _ => exact do54 a x y s p m
    | 55, _ => exact do55 a x y s p m
    | 56, _ => exact do56 a x y s p m
    | 57, _ => exact do57 a x y s p m
    | 58, _ => exact do58 a x y s p m
    | 59, _ => exact do59 a x y s p m
    | 60, _ => exact do60 a x y s p m
    | 61, _ => exact do61 a x y s p m
    | 62, _ => exact do62 a x y s p m
    | 63, _ => exact do63 a x y s p m
    | 64, _ => exact do64 a x y s p m
    | 65, _ => exact do65 a x y s p m
    | 66, _ => exact do66 a x y s p m
    | 67, _ => exact do67 a x y s p m
    | 68, _ => exact do68 a x y s p m
    | 69, _ => exact do69 a x y s p m
    | n + 70, h => omega
theorem do_good {C : Cfg} (S : Sub C0 C) : Good C 14 (pureS sDo) := goodS S k3 fun args v h => by
  unfold sDo at h
  split at h
  · cases h; exact ⟨rfl, do_all _ _ _ _ _ _ _⟩
  · cases h

/-- Acc: the shifts on A -/
abbrev AcIs (op a x y s p m : Int) : Prop := ev C0 Φ3 10 15 [i64 op, aluA ⟨a, x, y, s, p, m⟩] [] = qt C0 (aluA (aC op ⟨a, x, y, s, p, m⟩))
/-- of other operations Shift does nothing -/
def sShift2 : List AV → Option AV
  | [.ac (.one (.val (.int .i64 op))), .ac (.one (.val (.int .u8 m))), .ac (.one (.val (.int .u8 p)))] =>
    some (tup2 (cond (op == 2) (fShR 2 m p) (cond (op == 39) (fShR 39 m p) (cond (op == 32) (fShR 32 m p) (cond (op == 40) (fShR 40 m p) m)))) (cond (op == 2) (fShP 2 m p) (cond (op == 39) (fShP 39 m p) (cond (op == 32) (fShP 32 m p) (cond (op == 40) (fShP 40 m p) p)))))
  | _ => none
theorem shift_ev (op m p : Int) : ev C0 Φ1 10 21 [i64 op, u8 m, u8 p] [] = cond (op == 2) (t2 (fShR 2 m p, fShP 2 m p)) (cond (op == 39) (t2 (fShR 39 m p, fShP 39 m p)) (cond (op == 32) (t2 (fShR 32 m p, fShP 32 m p)) (cond (op == 40) (t2 (fShR 40 m p, fShP 40 m p)) (t2 (m, p))))) := by kernel_rfl
theorem shift_good2 : Good C0 21 (pureS sShift2) := good0 k1 fun args v h => by
  unfold sShift2 at h
  split at h
  · rename_i op m p; cases h; refine ⟨rfl, ?_⟩; rw [shift_ev]; cases op == 2 <;> cases op == 39 <;> cases op == 32 <;> cases op == 40 <;> rfl
  · cases h
noncomputable def Φs : Known := ⟨[(21, pureS sShift2)], []⟩
theorem ks : Knows C0 Φs := .f (.none _) shift_good2
theorem acc_ev (op a x y s p m : Int) : ev C0 Φs 10 15 [i64 op, aluA ⟨a, x, y, s, p, m⟩] [] = qt C0 (aluA ⟨cond (op == 2) (fShR 2 a p) (cond (op == 39) (fShR 39 a p) (cond (op == 32) (fShR 32 a p) (cond (op == 40) (fShR 40 a p) a))), x, y, s, cond (op == 2) (fShP 2 a p) (cond (op == 39) (fShP 39 a p) (cond (op == 32) (fShP 32 a p) (cond (op == 40) (fShP 40 a p) p))), m⟩) := by kernel_rfl
theorem acc_good {C : Cfg} (S : Sub C0 C) : Good C 15 (pureS sAcc) := goodS S ks fun args v h => by
  unfold sAcc at h
  split at h
  · rename_i op a x y s p m; cases h; refine ⟨rfl, ?_⟩; rw [acc_ev]; unfold aC; cases op == 2 <;> cases op == 39 <;> cases op == 32 <;> cases op == 40 <;> rfl
  · cases h

/-- Taken -/
abbrev TkIs (op p : Int) : Prop := ev C0 ⟨[], []⟩ 10 6 [i64 op, u8 p] [] = qt C0 (boo (tk op p))
theorem tkN (n : Nat) (p : Int) : TkIs (.negSucc n) p := by unfold TkIs; kernel_rfl
theorem tkG (n : Nat) (p : Int) : TkIs (.ofNat (n + 70)) p := by unfold TkIs; kernel_rfl
theorem tk0 (p : Int) : TkIs 0 p := by unfold TkIs; kernel_rfl
theorem tk1 (p : Int) : TkIs 1 p := by unfold TkIs; kernel_rfl
theorem tk2 (p : Int) : TkIs 2 p := by unfold TkIs; kernel_rfl
theorem tk3 (p : Int) : TkIs 3 p := by unfold TkIs; kernel_rfl
theorem tk4 (p : Int) : TkIs 4 p := by unfold TkIs; kernel_rfl
theorem tk5 (p : Int) : TkIs 5 p := by unfold TkIs; kernel_rfl
theorem tk6 (p : Int) : TkIs 6 p := by unfold TkIs; kernel_rfl
theorem tk7 (p : Int) : TkIs 7 p := by unfold TkIs; kernel_rfl
theorem tk8 (p : Int) : TkIs 8 p := by unfold TkIs; kernel_rfl
theorem tk9 (p : Int) : TkIs 9 p := by unfold TkIs; kernel_rfl
theorem tk10 (p : Int) : TkIs 10 p := by unfold TkIs; kernel_rfl
theorem tk11 (p : Int) : TkIs 11 p := by unfold TkIs; kernel_rfl
theorem tk12 (p : Int) : TkIs 12 p := by unfold TkIs; kernel_rfl
theorem tk13 (p : Int) : TkIs 13 p := by unfold TkIs; kernel_rfl
theorem tk14 (p : Int) : TkIs 14 p := by unfold TkIs; kernel_rfl
theorem tk15 (p : Int) : TkIs 15 p := by unfold TkIs; kernel_rfl
theorem tk16 (p : Int) : TkIs 16 p := by unfold TkIs; kernel_rfl
theorem tk17 (p : Int) : TkIs 17 p := by unfold TkIs; kernel_rfl
theorem tk18 (p : Int) : TkIs 18 p := by unfold TkIs; kernel_rfl
theorem tk19 (p : Int) : TkIs 19 p := by unfold TkIs; kernel_rfl
theorem tk20 (p : Int) : TkIs 20 p := by unfold TkIs; kernel_rfl
theorem tk21 (p : Int) : TkIs 21 p := by unfold TkIs; kernel_rfl
theorem tk22 (p : Int) : TkIs 22 p := by unfold TkIs; kernel_rfl
theorem tk23 (p : Int) : TkIs 23 p := by unfold TkIs; kernel_rfl
theorem tk24 (p : Int) : TkIs 24 p := by unfold TkIs; kernel_rfl
theorem tk25 (p : Int) : TkIs 25 p := by unfold TkIs; kernel_rfl
theorem tk26 (p : Int) : TkIs 26 p := by unfold TkIs; kernel_rfl
theorem tk27 (p : Int) : TkIs 27 p := by unfold TkIs; kernel_rfl
theorem tk28 (p : Int) : TkIs 28 p := by unfold TkIs; kernel_rfl
theorem tk29 (p : Int) : TkIs 29 p := by unfold TkIs; kernel_rfl
theorem tk30 (p : Int) : TkIs 30 p := by unfold TkIs; kernel_rfl
theorem tk31 (p : Int) : TkIs 31 p := by unfold TkIs; kernel_rfl
theorem tk32 (p : Int) : TkIs 32 p := by unfold TkIs; kernel_rfl
theorem tk33 (p : Int) : TkIs 33 p := by unfold TkIs; kernel_rfl
theorem tk34 (p : Int) : TkIs 34 p := by unfold TkIs; kernel_rfl
theorem tk35 (p : Int) : TkIs 35 p := by unfold TkIs; kernel_rfl
theorem tk36 (p : Int) : TkIs 36 p := by unfold TkIs; kernel_rfl
theorem tk37 (p : Int) : TkIs 37 p := by unfold TkIs; kernel_rfl
theorem tk38 (p : Int) : TkIs 38 p := by unfold TkIs; kernel_rfl
theorem tk39 (p : Int) : TkIs 39 p := by unfold TkIs; kernel_rfl
theorem tk40 (p : Int) : TkIs 40 p := by unfold TkIs; kernel_rfl
theorem tk41 (p : Int) : TkIs 41 p := by unfold TkIs; kernel_rfl
theorem tk42 (p : Int) : TkIs 42 p := by unfold TkIs; kernel_rfl
theorem tk43 (p : Int) : TkIs 43 p := by unfold TkIs; kernel_rfl
theorem tk44 (p : Int) : TkIs 44 p := by unfold TkIs; kernel_rfl
theorem tk45 (p : Int) : TkIs 45 p := by unfold TkIs; kernel_rfl
theorem tk46 (p : Int) : TkIs 46 p := by unfold TkIs; kernel_rfl
theorem tk47 (p : Int) : TkIs 47 p := by unfold TkIs; kernel_rfl
theorem tk48 (p : Int) : TkIs 48 p := by unfold TkIs; kernel_rfl
theorem tk49 (p : Int) : TkIs 49 p := by unfold TkIs; kernel_rfl
theorem tk50 (p : Int) : TkIs 50 p := by unfold TkIs; kernel_rfl
theorem tk51 (p : Int) : TkIs 51 p := by unfold TkIs; kernel_rfl
theorem tk52 (p : Int) : TkIs 52 p := by unfold TkIs; kernel_rfl
theorem tk53 (p : Int) : TkIs 53 p := by unfold TkIs; kernel_rfl
theorem tk54 (p : Int) : TkIs 54 p := by unfold TkIs; kernel_rfl
theorem tk55 (p : Int) : TkIs 55 p := by unfold TkIs; kernel_rfl
theorem tk56 (p : Int) : TkIs 56 p := by unfold TkIs; kernel_rfl
theorem tk57 (p : Int) : TkIs 57 p := by unfold TkIs; kernel_rfl
theorem tk58 (p : Int) : TkIs 58 p := by unfold TkIs; kernel_rfl
theorem tk59 (p : Int) : TkIs 59 p := by unfold TkIs; kernel_rfl
theorem tk60 (p : Int) : TkIs 60 p := by unfold TkIs; kernel_rfl
theorem tk61 (p : Int) : TkIs 61 p := by unfold TkIs; kernel_rfl
theorem tk62 (p : Int) : TkIs 62 p := by unfold TkIs; kernel_rfl
theorem tk63 (p : Int) : TkIs 63 p := by unfold TkIs; kernel_rfl
theorem tk64 (p : Int) : TkIs 64 p := by unfold TkIs; kernel_rfl
theorem tk65 (p : Int) : TkIs 65 p := by unfold TkIs; kernel_rfl
theorem tk66 (p : Int) : TkIs 66 p := by unfold TkIs; kernel_rfl
theorem tk67 (p : Int) : TkIs 67 p := by unfold TkIs; kernel_rfl
theorem tk68 (p : Int) : TkIs 68 p := by unfold TkIs; kernel_rfl
theorem tk69 (p : Int) : TkIs 69 p := by unfold TkIs; kernel_rfl
theorem tk_all (op p : Int) : TkIs op p := by
  rcases int70 op with ⟨n, rfl⟩ | ⟨n, rfl⟩ | ⟨n, hn, rfl⟩
  · exact tkN n p
  · exact tkG n p
  · match n, hn with
    | 0, _ => exact tk0 p
    | 1, _ => exact tk1 p
    | 2, _ => exact tk2 p
    | 3, _ => exact tk3 p
    | 4, _ => exact tk4 p
    | 5, _ => exact tk5 p
    | 6, _ => exact tk6 p
    | 7, _ => exact tk7 p
    | 8, _ => exact tk8 p
    | 9, _ => exact tk9 p
    | 10, _ => exact tk10 p
    | 11, _ => exact tk11 p
    | 12, _ => exact tk12 p
    | 13, _ => exact tk13 p
    | 14, _ => exact tk14 p
    | 15, _ => exact tk15 p
    | 16, _ => exact tk16 p
    | 17, _ => exact tk17 p
    | 18, _ => exact tk18 p
    | 19, _ => exact tk19 p
    | 20, _ => exact tk20 p
    | 21, _ => exact tk21 p
    | 22, _ => exact tk22 p
    | 23, _ => exact tk23 p
    | 24, _ => exact tk24 p
    | 25, _ => exact tk25 p
    | 26, _ => exact tk26 p
    | 27, _ => exact tk27 p
    | 28, _ => exact tk28 p
    | 29, _ => exact tk29 p
    | 30, _ => exact tk30 p
    | 31, _ => exact tk31 p
    | 32, _ => exact tk32 p
    | 33, _ => exact tk33 p
    | 34, _ => exact tk34 p
    | 35, _ => exact tk35 p
    | 36, _ => exact tk36 p
    | 37, _ => exact tk37 p
    | 38, _ => exact tk38 p
    | 39, _ => exact tk39 p
    | 40, _ => exact tk40 p
    | 41, _ => exact tk41 p
    | 42, _ => exact tk42 p
    | 43, _ => exact tk43 p
    | 44, _ => exact tk44 p
    | 45, _ => exact tk45 p
    | 46, _ => exact tk46 p
    | 47, _ => exact tk47 p
    | 48, _ => exact tk48 p
    | 49, _ => exact tk49 p
    | 50, _ => exact tk50 p
    | 51, _ => exact tk51 p
    | 52, _ => exact tk52 p
    | 53, _ => exact tk53 p
    | 54, _ => exact tk54 p
    | 55, _ => exact tk55 p
    | 56, _ => exact tk56 p
    | 57, _ => exact tk57 p
    | 58, _ => exact tk58 p
    | 59, _ => exact tk59 p
    | 60, _ => exact tk60 p
    | 61, _ => exact tk61 p
    | 62, _ => exact tk62 p
    | 63, _ => exact tk63 p
    | 64, _ => exact tk64 p
    | 65, _ => exact tk65 p
    | 66, _ => exact tk66 p
    | 67, _ => exact tk67 p
    | 68, _ => exact tk68 p
    | 69, _ => exact tk69 p
    | n + 70, h => omega
theorem taken_good {C : Cfg} (S : Sub C0 C) : Good C 6 (pureS sTaken) := goodS S (.none _) fun args v h => by
  unfold sTaken at h
  split at h
  · cases h; exact ⟨rfl, tk_all _ _⟩
  · cases h
end WTryd

open Go Ev
namespace WTryd
def gb1 : List GB := [⟨0, flagSegs⟩]
/-- with alu's table -/
noncomputable abbrev C1 : Cfg := gbCfg P gb1
theorem s01 : Sub C0 C1 := ⟨rfl, ⟨_, rfl⟩, ⟨_, rfl⟩, by decide⟩
theorem s1 : Sub C1 C1 := .refl (by decide)
theorem flat_flags : segsT flagSegs (flat (Go.Proofs.YtoklelancnkkpaaDoor.Rows.laid_tandem_alu_flags : DataW Unit)) = true := by kernel_rfl

theorem needs_ev (op : Int) : ev C1 ⟨[], []⟩ 10 8 [i64 op] (tabH C1) = cond (iLt op 0) (qt C1 (u8 0)) (cond (iLe 70 op) (qt C1 (u8 0)) (cond (inB op 70) (qt C1 (u8 (nthI ndL op.toNat))) none)) := by kernel_rfl
theorem sets_ev (op : Int) : ev C1 ⟨[], []⟩ 10 10 [i64 op] (tabH C1) = cond (iLt op 0) (qt C1 (u8 0)) (cond (iLe 70 op) (qt C1 (u8 0)) (cond (inB op 70) (qt C1 (u8 (nthI stL op.toNat))) none)) := by kernel_rfl
theorem in70 {op : Int} (h1 : iLt op 0 = false) (h2 : iLe 70 op = false) : inB op 70 = true := by
  rw [iLt_eq, decide_eq_false_iff_not] at h1
  rw [iLe_eq, decide_eq_false_iff_not] at h2
  unfold inB
  rw [decide_eq_true_eq]
  constructor <;> omega
theorem needs_good {C : Cfg} (S : Sub C1 C) : Good C 8 (pureS sNeeds) := pure_good S rfl fun args v h => by
  unfold sNeeds at h
  split at h
  · rename_i op; cases h; refine ⟨rfl, pure_ev ok (.none _) (lf := 10) ?_⟩; rw [needs_ev]; unfold nd
    cases h1 : iLt op 0 with
    | true => rfl
    | false => cases h2 : iLe 70 op with
      | true => rfl
      | false => rw [in70 h1 h2]; rfl
  · cases h
theorem sets_good {C : Cfg} (S : Sub C1 C) : Good C 10 (pureS sSets) := pure_good S rfl fun args v h => by
  unfold sSets at h
  split at h
  · rename_i op; cases h; refine ⟨rfl, pure_ev ok (.none _) (lf := 10) ?_⟩; rw [sets_ev]; unfold st
    cases h1 : iLt op 0 with
    | true => rfl
    | false => cases h2 : iLe 70 op with
      | true => rfl
      | false => rw [in70 h1 h2]; rfl
  · cases h
/-- alu's functions, wherever its table is -/
noncomputable def aluFs : List (Nat × Summ) := [(14, pureS sDo), (15, pureS sAcc), (6, pureS sTaken), (8, pureS sNeeds), (10, pureS sSets)]
theorem alu_goods {C : Cfg} (S : Sub C1 C) : Goods C aluFs :=
  have S0 : Sub C0 C := ⟨S.P, ⟨C.glob, rfl⟩, ⟨C.tabs, rfl⟩, S.nd⟩
  .cons (do_good S0) (.cons (acc_good S0) (.cons (taken_good S0) (.cons (needs_good S) (.cons (sets_good S) .nil))))
end WTryd

open Go Ev Go.ChangeShapes Go.WideShapes Go.ChangeAt Go.RowKit
namespace WTryd
noncomputable def Φ5 : Known := ⟨aluFs, []⟩
theorem k5 : Knows C1 Φ5 := ⟨alu_goods s1, fun _ h => by cases h⟩
theorem freed_ev (op a x y s p m n : Int) : ev C1 Φ5 10 4 [i64 op, aluA ⟨a, x, y, s, p, m⟩, u8 n] (tabH C1) =
    cond (iLt (n.tmod 8) 0) none (freedT op ⟨a, x, y, s, p, m⟩ (iShl .u8 1 (n.tmod 8)) fun b => qt C1 (boo b)) := by kernel_rfl
theorem freed_ok (op a x y s p m n : Int) (hp : U8 p) (hn : U8 n) : ev C1 Φ5 10 4 [i64 op, aluA ⟨a, x, y, s, p, m⟩, u8 n] (tabH C1) = qt C1 (boo true) := by
  have h0 : n.tmod 8 = n % 8 := by rw [Int.tmod_eq_emod_of_nonneg hn.1]
  rw [freed_ev, h0]
  have h1 : iLt (n % 8) 0 = false := by rw [iLt_eq, decide_eq_false_iff_not]; omega
  rw [h1]
  obtain ⟨k, hk⟩ := shl_bit (n := n % 8) (by omega) (by omega)
  rw [cond_false]
  exact freedT_true (r := ⟨a, x, y, s, p, m⟩) _ hp hk
theorem alu_args {C : Cfg} (op a x y s p m n : Int) : (∀ α, AVVs α [i64 op, aluA ⟨a, x, y, s, p, m⟩, u8 n] [.int .i64 op, .agg #[.int .u8 a, .int .u8 x, .int .u8 y, .int .u8 s, .int .u8 p, .int .u8 m], .int .u8 n]) ∧ avsWF (tabH C) [i64 op, aluA ⟨a, x, y, s, p, m⟩, u8 n] := by
  refine ⟨fun α => .cons (.ac (.one (.val _ rfl))) (.cons (.ac (.agg (.c (.val _ rfl) (.c (.val _ rfl) (.c (.val _ rfl) (.c (.val _ rfl) (.c (.val _ rfl) (.c (.val _ rfl) .nil)))))))) (.cons (.ac (.one (.val _ rfl))) .nil)), fun v hv => ?_⟩
  simp at hv
  rcases hv with rfl | rfl | rfl
  · exact ⟨trivial, trivial⟩
  · exact ⟨trivial, trivial, trivial, trivial, trivial, trivial, trivial⟩
  · exact ⟨trivial, trivial⟩
theorem walkFreed (op a x y s p m n : Int) (hp : U8 p) (hn : U8 n) (w : World) (h : GbIn w gb1) :
    Calls P 4 #[.int .i64 op, .agg #[.int .u8 a, .int .u8 x, .int .u8 y, .int .u8 s, .int .u8 p, .int .u8 m], .int .u8 n] w fun e w' => e = .returned (.bool true) ∧ Below w.heap.size w w' :=
  calls_of (l := gb1) (ev_good ok k5 10 4 _ _ _ (freed_ok op a x y s p m n hp hn)) (alu_args (C := C1) op a x y s p m n).1 (alu_args (C := C1) op a x y s p m n).2 (by kernel_rfl) h
/-- six bytes -/
abbrev rgPl : Pl := .st (.cons (.int .u8) (.cons (.int .u8) (.cons (.int .u8) (.cons (.int .u8) (.cons (.int .u8) (.cons (.int .u8) .nil))))))
theorem rg_of {cs : List Value} (h : okC rgPl cs) : ∃ a x y s p m, cs = [.int .u8 a, .int .u8 x, .int .u8 y, .int .u8 s, .int .u8 p, .int .u8 m] ∧ U8 a ∧ U8 x ∧ U8 y ∧ U8 s ∧ U8 p ∧ U8 m := by
  obtain ⟨c0, r0, rfl, ⟨a, rfl, ha⟩, c1, r1, rfl, ⟨x, rfl, hx⟩, c2, r2, rfl, ⟨y, rfl, hy⟩, c3, r3, rfl, ⟨s, rfl, hs⟩, c4, r4, rfl, ⟨p, rfl, hp⟩, c5, r5, rfl, ⟨m, rfl, hm⟩, h6⟩ := h
  have h6 : r5 = [] := h6
  subst h6
  exact ⟨a, x, y, s, p, m, rfl, u8_of_wf ha, u8_of_wf hx, u8_of_wf hy, u8_of_wf hs, u8_of_wf hp, u8_of_wf hm⟩
theorem gFlags : P.globalNamed "tandem/alu.flags" = some 0 := by kernel_rfl
theorem tFlags : (P.globals[0]?).map (·.type) = some 46 := by kernel_rfl
theorem sFlags : shB P (.arr 70 (.arr 2 (.int .u8))) 46 = true := by kernel_rfl
end WTryd
