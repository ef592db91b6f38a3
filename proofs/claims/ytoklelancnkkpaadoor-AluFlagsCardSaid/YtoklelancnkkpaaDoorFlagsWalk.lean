/-
  The function AluFlags returns true for every op and every p, where the table of flags lies in the world as the text lays it.
-/
import Derived.Test.YtoklelancnkkpaaDoorEvD
import Derived.Test.YtoklelancnkkpaaDoorChecked
import Derived.Test.YtoklelancnkkpaaDoorRows
import Derived.LaidMore
import Derived.Stop.Joined
set_option autoImplicit false
set_option linter.unusedVariables false
open Go Ev
namespace F1
noncomputable abbrev P : Program := Go.Proofs.Tryd.prog
noncomputable def C : Cfg := ⟨P, [(0, 0)]⟩
theorem ok : ProgOk P := progOk_of (C := Go.Proofs.Tryd.checked) 400 (by kernel_rfl) (by kernel_rfl) (by kernel_rfl)
/-- the letters of a datum -/
def litsOf : List (DataW Unit) → List (Int × Int)
  | .agg [.lit (.int .u8 a), .lit (.int .u8 b)] :: l => (a, b) :: litsOf l
  | _ => []
def tbl : List (Int × Int) := match (Go.Proofs.YtoklelancnkkpaaDoor.Rows.laid_tandem_alu_flags : DataW Unit) with | .agg l => litsOf l | _ => []
def rowAt : List (Int × Int) → Nat → List Value
  | [], _ => []
  | (a, b) :: _, 0 => [.int .u8 a, .int .u8 b]
  | _ :: l, n + 1 => rowAt l n
def blk : Blk := ⟨false, 0, [.r 70 2 (rowAt tbl)]⟩
abbrev u8 (n : Int) : AV := .ac (.one (.val (.int .u8 n)))
abbrev i64 (n : Int) : AV := .ac (.one (.val (.int .i64 n)))
abbrev boo (b : Bool) : AV := .ac (.one (.val (.bool b)))
def goodB : Option SR → Bool
  | some ⟨.ac (.one (.val (.bool true))), _, _, _, _⟩ => true
  | _ => false
theorem goodB_ok {o : Option SR} (h : goodB o = true) : ∃ r, o = some r ∧ r.v = boo true := by
  unfold goodB at h
  split at h
  · exact ⟨_, rfl, rfl⟩
  · cases h
noncomputable def run (op p : Int) : Option SR := ev C ⟨[], []⟩ 10 3 [i64 op, u8 p] [blk]
theorem neg_ev (n : Nat) (p : Int) : goodB (run (.negSucc n) p) = true := by kernel_rfl
theorem big_ev (n : Nat) (p : Int) : goodB (run (.ofNat (n + 70)) p) = true := by kernel_rfl
theorem lit_ev0 (p : Int) : allB (fun k => goodB (run k p)) [0, 1, 2, 6, 10, 13, 14, 15, 16, 17, 18, 19, 20, 21, 22, 23] = true := by kernel_rfl
theorem lit_ev1 (p : Int) : allB (fun k => goodB (run k p)) [24, 25, 26, 27, 28, 29, 30, 31, 32, 33, 34, 35, 36, 37, 38, 39] = true := by kernel_rfl
theorem lit_ev2 (p : Int) : allB (fun k => goodB (run k p)) [40, 41, 42, 43, 44, 45, 46, 47, 48, 49, 50, 51, 52, 53, 54, 55] = true := by kernel_rfl
theorem lit_ev3 (p : Int) : allB (fun k => goodB (run k p)) [56, 57, 58, 59, 60, 61, 62, 63, 64, 65, 66, 67, 68, 69] = true := by kernel_rfl
theorem br_ev3 (p : Int) : run 3 p = cond (((bAnd .u8 p 1 != 0) == false) == (bAnd .u8 p 1 == 0)) (some ⟨boo true, [blk], far, [], false⟩) (some ⟨boo false, [blk], far, [], false⟩) := by kernel_rfl
theorem br_ev4 (p : Int) : run 4 p = cond (((bAnd .u8 p 1 != 0) == true) == (bAnd .u8 p 1 != 0)) (some ⟨boo true, [blk], far, [], false⟩) (some ⟨boo false, [blk], far, [], false⟩) := by kernel_rfl
theorem br_ev5 (p : Int) : run 5 p = cond (((bAnd .u8 p 2 != 0) == true) == (bAnd .u8 p 2 != 0)) (some ⟨boo true, [blk], far, [], false⟩) (some ⟨boo false, [blk], far, [], false⟩) := by kernel_rfl
theorem br_ev7 (p : Int) : run 7 p = cond (((bAnd .u8 p 128 != 0) == true) == (bAnd .u8 p 128 != 0)) (some ⟨boo true, [blk], far, [], false⟩) (some ⟨boo false, [blk], far, [], false⟩) := by kernel_rfl
theorem br_ev8 (p : Int) : run 8 p = cond (((bAnd .u8 p 2 != 0) == false) == (bAnd .u8 p 2 == 0)) (some ⟨boo true, [blk], far, [], false⟩) (some ⟨boo false, [blk], far, [], false⟩) := by kernel_rfl
theorem br_ev9 (p : Int) : run 9 p = cond (((bAnd .u8 p 128 != 0) == false) == (bAnd .u8 p 128 == 0)) (some ⟨boo true, [blk], far, [], false⟩) (some ⟨boo false, [blk], far, [], false⟩) := by kernel_rfl
theorem br_ev11 (p : Int) : run 11 p = cond (((bAnd .u8 p 64 != 0) == false) == (bAnd .u8 p 64 == 0)) (some ⟨boo true, [blk], far, [], false⟩) (some ⟨boo false, [blk], far, [], false⟩) := by kernel_rfl
theorem br_ev12 (p : Int) : run 12 p = cond (((bAnd .u8 p 64 != 0) == true) == (bAnd .u8 p 64 != 0)) (some ⟨boo true, [blk], far, [], false⟩) (some ⟨boo false, [blk], far, [], false⟩) := by kernel_rfl
theorem cond_tf (b : Bool) : cond b true false = b := by cases b <;> rfl
theorem all_ev (op p : Int) : goodB (run op p) = true := by
  cases op with
  | negSucc n => exact neg_ev n p
  | ofNat n =>
    by_cases h : 70 ≤ n
    · obtain ⟨m, rfl⟩ : ∃ m, n = m + 70 := ⟨n - 70, by omega⟩
      exact big_ev m p
    · have hn : n < 70 := by omega
      have hc : (n : Int) ∈ ([0, 1, 2, 6, 10, 13, 14, 15, 16, 17, 18, 19, 20, 21, 22, 23] : List Int) ∨ (n : Int) ∈ ([24, 25, 26, 27, 28, 29, 30, 31, 32, 33, 34, 35, 36, 37, 38, 39] : List Int) ∨ (n : Int) ∈ ([40, 41, 42, 43, 44, 45, 46, 47, 48, 49, 50, 51, 52, 53, 54, 55] : List Int) ∨ (n : Int) ∈ ([56, 57, 58, 59, 60, 61, 62, 63, 64, 65, 66, 67, 68, 69] : List Int) ∨ n = 3 ∨ n = 4 ∨ n = 5 ∨ n = 7 ∨ n = 8 ∨ n = 9 ∨ n = 11 ∨ n = 12 := by
        simp only [List.mem_cons, List.not_mem_nil, or_false]
        omega
      rcases hc with h | h | h | h | rfl | rfl | rfl | rfl | rfl | rfl | rfl | rfl
      · exact allB_ok (lit_ev0 p) _ h
      · exact allB_ok (lit_ev1 p) _ h
      · exact allB_ok (lit_ev2 p) _ h
      · exact allB_ok (lit_ev3 p) _ h
      · show goodB (run 3 p) = true; rw [br_ev3]; cases h : (bAnd .u8 p 1 == 0) <;> simp [bne, h, goodB]
      · show goodB (run 4 p) = true; rw [br_ev4]; cases h : (bAnd .u8 p 1 == 0) <;> simp [bne, h, goodB]
      · show goodB (run 5 p) = true; rw [br_ev5]; cases h : (bAnd .u8 p 2 == 0) <;> simp [bne, h, goodB]
      · show goodB (run 7 p) = true; rw [br_ev7]; cases h : (bAnd .u8 p 128 == 0) <;> simp [bne, h, goodB]
      · show goodB (run 8 p) = true; rw [br_ev8]; cases h : (bAnd .u8 p 2 == 0) <;> simp [bne, h, goodB]
      · show goodB (run 9 p) = true; rw [br_ev9]; cases h : (bAnd .u8 p 128 == 0) <;> simp [bne, h, goodB]
      · show goodB (run 11 p) = true; rw [br_ev11]; cases h : (bAnd .u8 p 64 == 0) <;> simp [bne, h, goodB]
      · show goodB (run 12 p) = true; rw [br_ev12]; cases h : (bAnd .u8 p 64 == 0) <;> simp [bne, h, goodB]
end F1

set_option linter.unusedVariables false
open Go Ev Go.ChangeShapes Go.WideShapes Go.ChangeAt Go.RowKit
namespace F1
theorem rows_ok : ∀ j, j < 70 → (rowAt tbl j).length = 2 ∧ ∀ u ∈ rowAt tbl j, u.oneCell' = true := by
  have h : (List.range 70).all (fun j => (rowAt tbl j).length == 2 && (rowAt tbl j).all Value.oneCell') = true := by kernel_rfl
  intro j hj
  have := List.all_eq_true.1 h j (by simpa using hj)
  simp only [Bool.and_eq_true, beq_iff_eq, List.all_eq_true] at this
  exact this
theorem flat_tbl : flat (Go.Proofs.YtoklelancnkkpaaDoor.Rows.laid_tandem_alu_flags : DataW Unit) = (List.range 70).flatMap (rowAt tbl) := by kernel_rfl

def al : Nat → Ev.Loc := fun _ => ⟨0, 0, 0, true⟩
/-- the table lies in the world -/
def Tabled (w : World) : Prop := ∃ c e fz, w.heap[0]? = some (.cells c e fz) ∧ c.toList = flat (Go.Proofs.YtoklelancnkkpaaDoor.Rows.laid_tandem_alu_flags : DataW Unit)

theorem sat_tbl {w : World} (h : Tabled w) : Sat al [blk] w := by
  obtain ⟨c, e, fz, h1, h2⟩ := h
  refine ⟨fun i b hb => ?_, fun i j b b' hb hm => ?_⟩
  · have hi : i = 0 := by have := lt_of_get hb; simp at this; exact this
    subst hi
    simp at hb
    subst hb
    refine ⟨fun _ => ⟨c, e, fz, (List.range 70).flatMap (rowAt tbl) ++ [], h1, .r rows_ok .nil, fun j v hv => ?_, (fun hm => by cases hm), Nat.zero_le _⟩, fun hr => by cases hr⟩
    rw [List.append_nil, ← flat_tbl, ← h2] at hv
    show c[0 + j]? = some v
    rw [Nat.zero_add]
    simpa using hv
  · have hi : i = 0 := by have := lt_of_get hb; simp at this; exact this
    subst hi
    simp at hb
    subst hb
    cases hm
theorem glob_tbl : Glob C al [blk] := fun g i hi => by
  have hi : lookup [(0, 0)] g = some i := hi
  simp only [lookup] at hi
  split at hi
  · rename_i h; cases hi
    have := Nat.eq_of_beq_eq_true h
    subst this
    exact ⟨blk, rfl, rfl, rfl, rfl⟩
  · cases hi
theorem walkF (op p : Int) (w : World) (h : Tabled w) : Calls Go.Proofs.Tryd.prog 3 #[.int .i64 op, .int .u8 p] w fun e w' => e = .returned (.bool true) ∧ Below w.heap.size w w' := by
  obtain ⟨r, hr, hv⟩ := goodB_ok (all_ev op p)
  exact calls_of_ro (C := C) (ev_good ok (.none _) 10 3 _ _ r hr) hv (vs := [.int .i64 op, .int .u8 p]) (.cons (.ac (.one (.val _ rfl))) (.cons (.ac (.one (.val _ rfl))) .nil))
    (fun x hx => by simp at hx; rcases hx with rfl | rfl <;> exact ⟨trivial, trivial⟩) (fun i b hb => by
      have hi : i = 0 := by have := lt_of_get hb; simp at this; exact this
      subst hi; simp at hb; subst hb; exact trivial) glob_tbl (sat_tbl h) (fun i b hb => by
      have hi : i = 0 := by have := lt_of_get hb; simp at this; exact this
      subst hi; simp at hb; subst hb; rfl)

theorem gFlags : Go.Proofs.Tryd.prog.globalNamed "tandem/alu.flags" = some 0 := by kernel_rfl
theorem tFlags : (Go.Proofs.Tryd.prog.globals[0]?).map (·.type) = some 46 := by kernel_rfl
theorem sFlags : shB Go.Proofs.Tryd.prog (.arr 70 (.arr 2 (.int .u8))) 46 = true := by kernel_rfl
end F1
