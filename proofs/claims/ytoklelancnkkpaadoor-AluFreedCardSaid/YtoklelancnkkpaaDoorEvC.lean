/-
  Operators, addresses, slices, strings and interfaces of the interpreter are right. No conditions.
-/
import Derived.Test.YtoklelancnkkpaaDoorEvB
import Derived.ChangeKeysEq
import Derived.Laws.Append
import Derived.Laws.BytesString
import Derived.Lib.ConvBytes
set_option autoImplicit false
set_option linter.unusedVariables false
set_option linter.unusedSimpArgs false
namespace Ev
open Go

/-! ## Operators -/
theorem run_part_agg {P : Program} {w : World} {t : TypeId} {i : TypeInfo} {cs : Array Value} {off : Nat} (hi : P.info? t = some i) (ha : isAggB P t = some true) :
    (part t cs off).run P w = .ok (.agg (cs.extract off (off + i.size))) w := by
  simp [part, run_isAggB ha, run_sizeOf' hi]

theorem run_part_cell {P : Program} {w : World} {t : TypeId} {cs : Array Value} {off : Nat} {v : Value} (ha : isAggB P t = some false) (hv : cs[off]? = some v) :
    (part t cs off).run P w = .ok v w := by
  simp [part, run_isAggB ha, hv]

theorem run_part {P : Program} {α : Nat → Loc} {w : World} {t : TypeId} {l : List Seg} {off : Nat} {x : AC} {vs : List Value} (e : loadS P t l off = some x) (hv : SegsV α l vs) :
    ∃ u, (part t vs.toArray off).run P w = .ok u w ∧ ACV α x u := by
  unfold loadS at e
  split at e
  · rename_i i hi ha
    split at e
    · rename_i l' hd
      split at e
      · rename_i r hr
        cases e
        obtain ⟨h1, h2⟩ := takeS_ok hr (dropS_ok hd hv)
        refine ⟨_, run_part_agg hi ha, ?_⟩
        have : (Value.agg (vs.toArray.extract off (off + i.size))) = .agg ((vs.drop off).take i.size).toArray := by
          congr 1
          apply Array.ext'
          simp [List.take_drop]
        rw [this]; exact .agg h1
      · cases e
    · cases e
  · rename_i i hi ha
    split at e
    · rename_i y hy
      cases e
      obtain ⟨v, h1, h2⟩ := cellAt_ok hy hv
      exact ⟨v, run_part_cell ha (by simpa using h1), .one h2⟩
    · cases e
  · cases e

theorem binI_inv {β : Type} {op : BinOp} {k : IntKind} {a b : Int} {K : AV → Option β} {r : β} (e : binI op k a b K = some r) (hs : op ≠ .shl ∧ op ≠ .shr) :
    ∃ v, K (.ac (.one (.val v))) = some r ∧ v.oneCell' = true ∧ ∀ (P : Program) (t : TypeId) (w : World), (binOp op t (.int k a) (.int k b)).run P w = .ok v w := by
  cases op <;> simp only [binI] at e
  case add => exact ⟨_, e, rfl, fun P t w => by simp [binOp, Op.intArith]⟩
  case sub => exact ⟨_, e, rfl, fun P t w => by simp [binOp, Op.intArith]⟩
  case mul => exact ⟨_, e, rfl, fun P t w => by simp [binOp, Op.intArith]⟩
  case quo =>
    rcases cond_inv e with ⟨_, h⟩ | ⟨h0, h⟩
    · cases h
    · have : b ≠ 0 := by simpa using h0
      exact ⟨_, h, rfl, fun P t w => by simp [binOp, Op.intDiv, this]⟩
  case rem =>
    rcases cond_inv e with ⟨_, h⟩ | ⟨h0, h⟩
    · cases h
    · have : b ≠ 0 := by simpa using h0
      exact ⟨_, h, rfl, fun P t w => by simp [binOp, Op.intDiv, this]⟩
  case and => exact ⟨_, e, rfl, fun P t w => by simp [binOp, Op.intBits, bAnd]⟩
  case or => exact ⟨_, e, rfl, fun P t w => by simp [binOp, Op.intBits, bOr]⟩
  case xor => exact ⟨_, e, rfl, fun P t w => by simp [binOp, Op.intBits, bXor]⟩
  case andNot => exact ⟨_, e, rfl, fun P t w => by simp [binOp, Op.intBits, bAndNot]⟩
  case shl => cases e
  case shr => cases e
  case eql => exact ⟨_, e, rfl, fun P t w => by simp [binOp, Op.intCmp]⟩
  case neq => exact ⟨_, e, rfl, fun P t w => by simp [binOp, Op.intCmp]⟩
  case lss => exact ⟨_, e, rfl, fun P t w => by simp [binOp, Op.intCmp, iLt_eq]⟩
  case leq => exact ⟨_, e, rfl, fun P t w => by simp [binOp, Op.intCmp, iLe_eq]⟩
  case gtr => exact ⟨_, e, rfl, fun P t w => by simp [binOp, Op.intCmp, iLt_eq]⟩
  case geq => exact ⟨_, e, rfl, fun P t w => by simp [binOp, Op.intCmp, iLe_eq]⟩

theorem eqOp_inv {β : Type} {op : BinOp} {b : Bool} {K : AV → Option β} {r : β} (e : eqOp op b K = some r) :
    (op = .eql ∧ K (.bool b) = some r) ∨ (op = .neq ∧ K (.bool !b) = some r) := by
  cases op <;> simp only [eqOp] at e <;> first | cases e | exact .inl ⟨rfl, e⟩ | exact .inr ⟨rfl, e⟩

/-! ### equality by a type -/
theorem run_eqPtr {P : Program} {α : Nat → Loc} {x y : Cl} {b : Bool} {u v : Value} (e : eqPtr x y = some b) (hx : V α x u) (hy : V α y v) {t e' : TypeId} {d : Nat} {w : World}
    (h : P.underlying t = some (.pointer e')) : (Op.equalIn (d + 1) t u v).run P w = .ok b w := by
  simp only [Op.equalIn, Sem.run_bind, run_underlying h, Result.andThen_ok]
  cases hx <;> cases hy <;> simp only [eqPtr] at e <;> (try cases e) <;> (try rfl)
  all_goals (split at e <;> first | cases e | skip)
  all_goals (simp_all)

theorem run_eqSl {P : Program} {α : Nat → Loc} {x y : Cl} {b : Bool} {u v : Value} (e : eqSl x y = some b) (hx : V α x u) (hy : V α y v) {t e' : TypeId} {d : Nat} {w : World}
    (h : P.underlying t = some (.slice e')) : (Op.equalIn (d + 1) t u v).run P w = .ok b w := by
  simp only [Op.equalIn, Sem.run_bind, run_underlying h, Result.andThen_ok]
  cases hx <;> cases hy <;> simp only [eqSl] at e <;> (try cases e) <;> (try rfl)
  all_goals (split at e <;> first | cases e | skip)
  all_goals (simp_all)

theorem run_eqFn {P : Program} {α : Nat → Loc} {x y : Cl} {b : Bool} {u v : Value} (e : eqFn x y = some b) (hx : V α x u) (hy : V α y v) {t : TypeId} {a1 b1 : Array TypeId} {c1 : Bool} {d : Nat} {w : World}
    (h : P.underlying t = some (.func a1 b1 c1)) : (Op.equalIn (d + 1) t u v).run P w = .ok b w := by
  simp only [Op.equalIn, Sem.run_bind, run_underlying h, Result.andThen_ok]
  cases hx <;> cases hy <;> simp only [eqFn] at e <;> (try cases e) <;> (try rfl)
  all_goals (split at e <;> first | cases e | skip)
  all_goals (simp_all)

theorem run_eqIf {P : Program} {α : Nat → Loc} {x y : Cl} {b : Bool} {u v : Value} (e : eqIf x y = some b) (hx : V α x u) (hy : V α y v) {t : TypeId} {m1 : Array (String × TypeId)} {d : Nat} {w : World}
    (h : P.underlying t = some (.interface m1)) : (Op.equalIn (d + 1) t u v).run P w = .ok b w := by
  simp only [Op.equalIn, Sem.run_bind, run_underlying h, Result.andThen_ok]
  cases hx <;> cases hy <;> simp only [eqIf] at e <;> (try cases e) <;> (try rfl)
  all_goals (split at e <;> first | cases e | skip)
  all_goals (simp_all)

theorem cellsOf_eq {P : Program} {t : TypeId} {i : TypeInfo} (h : P.info? t = some i) : P.cellsOf t = i.size := by simp [Program.cellsOf, h]

theorem fieldsOf_eq {P : Program} {t : TypeId} {fs : Array Field} (h : P.underlying t = some (.struct fs)) : P.fieldsOf t = fs := by simp [Program.fieldsOf, h]

theorem andO_inv {a b : Option Bool} {r : Bool} (h : andO a b = some r) : ∃ x y, a = some x ∧ b = some y ∧ r = (x && y) := by
  cases a <;> cases b <;> simp [andO] at h
  exact ⟨_, _, rfl, rfl, h.symm⟩

theorem run_eqFieldsT {P : Program} {α : Nat → Loc} {d : Nat} {eq : TypeId → AC → AC → Option Bool}
    (ih : ∀ t x y b u v w, eq t x y = some b → ACV α x u → ACV α y v → (Op.equalIn d t u v).run P w = .ok b w)
    {l m : List Seg} {xs ys : List Value} (hx : SegsV α l xs) (hy : SegsV α m ys) : ∀ {fs : List Field} {b : Bool} (w : World), eqFieldsT eq P l m fs = some b →
    (Op.eqFields d xs.toArray ys.toArray fs).run P w = .ok b w
  | [], b, w, e => by cases e; simp [Op.eqFields]
  | f :: fs, b, w, e => by
    simp only [eqFieldsT] at e
    split at e
    · cases e
    · rename_i hname
      have hname : f.name ≠ "_" := by simpa using hname
      split at e
      · rename_i x y h1 h2
        obtain ⟨u, g1, g2⟩ := run_part (P := P) (w := w) h1 hx
        obtain ⟨v, g3, g4⟩ := run_part (P := P) (w := w) h2 hy
        simp only [Op.eqFields, hname, ne_eq, not_false_eq_true, if_true, Sem.run_bind, g1, g3, Result.andThen_ok]
        split at e
        · rw [ih _ _ _ _ _ _ w e g2 g4]
          cases b <;> simp [Op.eqFields]
        · obtain ⟨p, q, k1, k2, rfl⟩ := andO_inv e
          rw [ih _ _ _ _ _ _ w k1 g2 g4]
          have := run_eqFieldsT ih hx hy w k2
          cases p
          · simp
          · simpa using this
      · cases e

theorem run_eqElemsT {P : Program} {α : Nat → Loc} {d : Nat} {eq : AC → AC → Option Bool} {et : TypeId} {sz : Nat}
    (ih : ∀ x y b u v w, eq x y = some b → ACV α x u → ACV α y v → (Op.equalIn d et u v).run P w = .ok b w)
    {l m : List Seg} {xs ys : List Value} (hx : SegsV α l xs) (hy : SegsV α m ys) : ∀ {n i : Nat} {b : Bool} (w : World), eqElemsT eq P et sz l m n i = some b →
    (Op.eqItems d et sz xs.toArray ys.toArray (List.range' i n)).run P w = .ok b w
  | 0, i, b, w, e => by cases e; simp [Op.eqItems]
  | n + 1, i, b, w, e => by
    simp only [eqElemsT] at e
    split at e
    · rename_i x y h1 h2
      obtain ⟨u, g1, g2⟩ := run_part (P := P) (w := w) h1 hx
      obtain ⟨v, g3, g4⟩ := run_part (P := P) (w := w) h2 hy
      obtain ⟨p, q, k1, k2, rfl⟩ := andO_inv e
      have := run_eqElemsT ih hx hy w k2
      simp only [List.range'_succ, Op.eqItems, Sem.run_bind, g1, g3, Result.andThen_ok, ih _ _ _ _ _ w k1 g2 g4]
      cases p
      · simp
      · simpa using this
    · cases e

theorem run_eqInts {P : Program} {d : Nat} {e : TypeId} {k ke : IntKind} (hu : P.underlying e = some (.int ke)) {f g : Nat → Int} {n : Nat} (w : World) : ∀ {m i : Nat}, i + m ≤ n →
    (Op.eqItems (d + 1) e 1 ((List.range n).map fun j => Value.int k (f j)).toArray ((List.range n).map fun j => Value.int k (g j)).toArray (List.range' i m)).run P w = .ok ((List.range' i m).all fun j => f j == g j) w
  | 0, i, _ => by simp [Op.eqItems]
  | m + 1, i, h => by
    have hg : isAggB P e = some false := by simp [isAggB, hu]
    have p1 : ∀ f : Nat → Int, (part e ((List.range n).map fun j => Value.int k (f j)).toArray (i * 1)).run P w = .ok (.int k (f i)) w := fun f => by
      refine run_part_cell hg ?_
      have : i < n := by omega
      simp [this]
    have := run_eqInts (d := d) (k := k) (f := f) (g := g) hu w (m := m) (i := i + 1) (n := n) (by omega)
    simp only [List.range'_succ, Op.eqItems, Sem.run_bind, p1, Result.andThen_ok, run_equalIn_int w d e k ke _ _ hu]
    cases hfg : (f i == g i)
    · simp [hfg]
    · simpa [hfg] using this

theorem run_eqT {P : Program} {α : Nat → Loc} : ∀ (d : Nat) (t : TypeId) (x y : AC) (b : Bool) (u v : Value) (w : World), eqT P d t x y = some b → ACV α x u → ACV α y v → (Op.equalIn d t u v).run P w = .ok b w
  | 0, t, x, y, b, u, v, w, e, hx, hy => by simp [eqT] at e
  | d + 1, t, x, y, b, u, v, w, e, hx, hy => by
    simp only [eqT] at e
    split at e
    · rename_i hu
      split at e
      · cases e; cases hx; rename_i hx; cases hx; cases hy; rename_i hy; cases hy
        exact run_equalIn_bool w d t _ _ hu
      · cases e
    · rename_i k hu
      split at e
      · split at e
        · rename_i hk; subst hk; cases e; cases hx; rename_i hx; cases hx; cases hy; rename_i hy; cases hy
          exact run_equalIn_int w d t _ _ _ _ hu
        · cases e
      · cases e
    · rename_i hu
      split at e
      · cases e; cases hx; rename_i hx; cases hx; cases hy; rename_i hy; cases hy
        rw [run_equalIn_string w d t _ _ hu, beq_toListBytes]
      · cases e
    · rename_i fs hu
      split at e
      · split at e
        · cases e
        · rename_i hst
          cases hx; rename_i hx; cases hy; rename_i hy
          rw [run_equalIn_struct w d t _ _ (by rw [fieldsOf_eq hu]; exact hu) (by simpa using hst), fieldsOf_eq hu]
          exact run_eqFieldsT (fun t x y b u v w => run_eqT d t x y b u v w) hx hy w e
      · cases e
    · rename_i n et hu
      split at e
      · rename_i n' k f n'' k' g
        split at e
        · rename_i h1
          split at e
          · rename_i h2
            split at e
            · rename_i hk
              split at e
              · rename_i ke i hk' hi
                split at e
                · cases e
                rename_i h0
                split at e
                · rename_i h3
                  cases e
                  have h1 := Nat.eq_of_beq_eq_true h1
                  have h2 := Nat.eq_of_beq_eq_true h2
                  have h3 := Nat.eq_of_beq_eq_true h3
                  subst h1 h2 hk
                  cases hx; rename_i hx; cases hy; rename_i hy
                  cases hx with | ri hx => ?_
                  cases hx
                  cases hy with | ri hy => ?_
                  cases hy
                  rw [run_equalIn_array w d _ _ hu hi, cellsOf_eq hi, h3, List.range_eq_range']
                  cases d with
                  | zero => exact absurd rfl h0
                  | succ d => simpa [allEq, List.range_eq_range'] using run_eqInts (d := d) (k := k) (f := f) (g := g) hk' w (m := n) (i := 0) (n := n) (by omega)
                · cases e
              · cases e
            · cases e
          · cases e
        · cases e
      · rename_i l m _ 
        split at e
        · rename_i i hi
          cases hx; rename_i hx; cases hy; rename_i hy
          rw [run_equalIn_array w d _ _ hu hi, cellsOf_eq hi, List.range_eq_range']
          exact run_eqElemsT (fun x y b u v w => run_eqT d et x y b u v w) hx hy w e
        · cases e
      · cases e
    · rename_i et hu
      split at e
      · cases hx; rename_i hx; cases hy; rename_i hy; exact run_eqPtr e hx hy hu
      · cases e
    · rename_i et hu
      split at e
      · cases hx; rename_i hx; cases hy; rename_i hy; exact run_eqSl e hx hy hu
      · cases e
    · rename_i hu
      split at e
      · cases hx; rename_i hx; cases hy; rename_i hy; exact run_eqFn e hx hy hu
      · cases e
    · rename_i hu
      split at e
      · cases hx; rename_i hx; cases hy; rename_i hy; exact run_eqIf e hx hy hu
      · cases e
    · cases e

end Ev

namespace Ev
open Go

/-! ## Operators, continued -/
theorem run_eqGuard_other {P : Program} {w : World} {op : BinOp} {t : TypeId} {x y : Operand} {a b : Value} (h1 : ∀ cs ds, ¬ (a = .agg cs ∧ b = .agg ds)) (h2 : a = .nilIface → b = .nilIface → litOp x = true ∨ litOp y = true) :
    (eqGuard op t x y a b).run P w = .ok () w := by
  unfold eqGuard
  cases op <;> first
    | rfl
    | (cases a <;> cases b <;> first
        | rfl
        | exact absurd ⟨rfl, rfl⟩ (h1 _ _)
        | (rcases h2 rfl rfl with h | h
           · cases x <;> first | rfl | cases h
           · cases x <;> cases y <;> first | rfl | cases h))

theorem nilOk_ok {α : Nat → Loc} {lit : Bool} {x y : AC} {u v : Value} (h : nilOk lit x y = true) (hx : ACV α x u) (hy : ACV α y v) (hu : u = .nilIface) (hv : v = .nilIface) (h1 : ∃ a, x = .one a ∧ a ≠ .bad) (h2 : ∃ a, y = .one a ∧ a ≠ .bad) : lit = true := by
  subst hu hv
  obtain ⟨a, rfl, ha⟩ := h1
  obtain ⟨b, rfl, hb⟩ := h2
  cases hx; rename_i hx; cases hy; rename_i hy
  cases hx <;> cases hy <;> simp_all [nilOk]

theorem eqT_notBad {P : Program} : ∀ {d : Nat} {t : TypeId} {x y : Cl} {b : Bool}, eqT P d t (.one x) (.one y) = some b → x ≠ .bad ∧ y ≠ .bad
  | 0, t, x, y, b, e => by simp [eqT] at e
  | d + 1, t, x, y, b, e => by
    constructor
    · rintro rfl
      simp only [eqT] at e
      split at e <;> simp_all [eqPtr, eqSl, eqFn, eqIf]
    · rintro rfl
      simp only [eqT] at e
      split at e <;> simp_all [eqPtr, eqSl, eqFn, eqIf]

theorem binOp_eq {P : Program} {op : BinOp} {t : TypeId} {u v : Value} {w : World} {b : Bool} (he : (Op.equalIn 10000 t u v).run P w = .ok b w)
    (h : ∀ k a k' a', ¬ (u = .int k a ∧ v = .int k' a')) (hs : ∀ a a', ¬ (u = .string a ∧ v = .string a'))
    (hf : ∀ k a k' a', ¬ (u = .float k a ∧ v = .float k' a')) (hc : ∀ k a b k' a' b', ¬ (u = .complex k a b ∧ v = .complex k' a' b')) :
    (op = .eql → (binOp op t u v).run P w = .ok (.bool b) w) ∧ (op = .neq → (binOp op t u v).run P w = .ok (.bool !b) w) := by
  have he' : (Op.equal t u v).run P w = .ok b w := he
  constructor
  · rintro rfl
    cases u <;> cases v <;> first
      | (exact absurd ⟨rfl, rfl⟩ (h _ _ _ _)) | (exact absurd ⟨rfl, rfl⟩ (hs _ _)) | (exact absurd ⟨rfl, rfl⟩ (hf _ _ _ _)) | (exact absurd ⟨rfl, rfl⟩ (hc _ _ _ _ _ _))
      | (simp [binOp, he'])
  · rintro rfl
    cases u <;> cases v <;> first
      | (exact absurd ⟨rfl, rfl⟩ (h _ _ _ _)) | (exact absurd ⟨rfl, rfl⟩ (hs _ _)) | (exact absurd ⟨rfl, rfl⟩ (hf _ _ _ _)) | (exact absurd ⟨rfl, rfl⟩ (hc _ _ _ _ _ _))
      | (simp [binOp, he'])

theorem strA_inv {β : Type} {op : BinOp} {a b : ByteArray} {K : AV → Option β} {r : β} (e : strA op a b K = some r) :
    ∃ v, K (.ac (.one (.val v))) = some r ∧ v.oneCell' = true ∧ ∀ (P : Program) (t : TypeId) (w : World), (binOp op t (.string a) (.string b)).run P w = .ok v w := by
  unfold strA at e
  split at e
  · rcases cond_inv e with ⟨h0, h⟩ | ⟨_, h⟩
    · have h0 := Nat.le_of_ble_eq_true h0
      have hm : IntKind.i64.max = 9223372036854775807 := by decide
      have h1 : ¬ (((a.size + b.size : Nat) : Int) > IntKind.i64.max) := by rw [hm]; omega
      exact ⟨_, h, rfl, fun P t w => by simp only [binOp, Op.stringOp]; rw [if_neg h1]; rfl⟩
    · cases h
  all_goals first
    | exact ⟨_, e, rfl, fun P t w => by simp [binOp, Op.stringOp]⟩
    | cases e

theorem binA_inv {β : Type} {P : Program} {op : BinOp} {t : TypeId} {ox oy : Operand} {x y : AC} {K : AV → Option β} {r : β} {lit : Bool} (hlo : lit = true → litOp ox = true ∨ litOp oy = true) (e : binA P op t lit x y K = some r) :
    ∃ v, K (.ac (.one (.val v))) = some r ∧ v.oneCell' = true ∧ ∀ (α : Nat → Loc) (a b : Value) (w : World), ACV α x a → ACV α y b →
      ((do eqGuard op t ox oy a b; binOp op t a b : Sem Value)).run P w = .ok v w := by
  unfold binA at e
  split at e
  · -- two integers
    rename_i k a k' b
    have key : ∃ v, K (.ac (.one (.val v))) = some r ∧ v.oneCell' = true ∧ ∀ (w : World), (binOp op t (.int k a) (.int k' b)).run P w = .ok v w := by
      split at e
      · rcases cond_inv e with ⟨_, h⟩ | ⟨h0, h⟩
        · cases h
        · have : ¬ b < 0 := by simpa [iLt_eq] using h0
          exact ⟨_, h, rfl, fun w => by simp [binOp, Op.shift, this, iShl]⟩
      · rcases cond_inv e with ⟨_, h⟩ | ⟨h0, h⟩
        · cases h
        · have : ¬ b < 0 := by simpa [iLt_eq] using h0
          exact ⟨_, h, rfl, fun w => by simp [binOp, Op.shift, this, iShr]⟩
      · rename_i hn1 hn2
        split at e
        · rename_i hk; subst hk
          obtain ⟨v, h1, h2, h3⟩ := binI_inv e ⟨fun h => hn1 h, fun h => hn2 h⟩
          exact ⟨v, h1, h2, fun w => h3 P t w⟩
        · cases e
    obtain ⟨v, h1, h2, h3⟩ := key
    refine ⟨v, h1, h2, fun α u u' w hu hu' => ?_⟩
    cases hu; rename_i hu; cases hu; cases hu'; rename_i hu'; cases hu'
    simp only [Sem.run_bind]
    rw [run_eqGuard_other (by simp) (by simp)]
    exact h3 w
  · -- two strings
    rename_i a b
    obtain ⟨v, h, h2, h3⟩ := strA_inv e
    refine ⟨v, h, h2, fun α u u' w hu hu' => ?_⟩
    cases hu; rename_i hu; cases hu; cases hu'; rename_i hu'; cases hu'
    simp only [Sem.run_bind]
    rw [run_eqGuard_other (by simp) (by simp)]
    exact h3 P t w
  · -- aggregates
    rename_i l m
    split at e
    · cases e
    · rename_i hg
      have hg : P.eqGuardType P.depth t = false := by simpa using hg
      obtain ⟨b, hb, e⟩ := optK_inv e
      rcases eqOp_inv e with ⟨rfl, h⟩ | ⟨rfl, h⟩
      · refine ⟨_, h, rfl, fun α u u' w hu hu' => ?_⟩
        have hr := run_eqT 10000 t _ _ _ _ _ w hb hu hu'
        cases hu; rename_i hu; cases hu'; rename_i hu'
        simp only [Sem.run_bind]
        rw [run_eqGuard_agg w _ _ _ _ _ _ hg]
        exact (binOp_eq hr (by simp) (by simp) (by simp) (by simp)).1 rfl
      · refine ⟨_, h, rfl, fun α u u' w hu hu' => ?_⟩
        have hr := run_eqT 10000 t _ _ _ _ _ w hb hu hu'
        cases hu; rename_i hu; cases hu'; rename_i hu'
        simp only [Sem.run_bind]
        rw [run_eqGuard_agg w _ _ _ _ _ _ hg]
        exact (binOp_eq hr (by simp) (by simp) (by simp) (by simp)).2 rfl
  · rename_i n1 n2 n3
    split at e
    · rename_i hlit
      obtain ⟨b, hb, e2⟩ := optK_inv e
      -- both are cells
      have hones : (∃ a, x = .one a) ∧ (∃ a, y = .one a) := by
        cases x with
        | one x => cases y with
          | one y => exact ⟨⟨x, rfl⟩, ⟨y, rfl⟩⟩
          | agg m => simp only [eqT] at hb; split at hb <;> simp_all
        | agg l => cases y with
          | one y => simp only [eqT] at hb; split at hb <;> simp_all
          | agg m => exact absurd rfl (n3 l m rfl)
      obtain ⟨⟨x, rfl⟩, ⟨y, rfl⟩⟩ := hones
      have hnb := eqT_notBad hb
      have key : ∀ (α : Nat → Loc) (u u' : Value) (w : World), ACV α (.one x) u → ACV α (.one y) u' →
          (eqGuard op t ox oy u u').run P w = .ok () w ∧ (Op.equalIn 10000 t u u').run P w = .ok b w ∧ (∀ k a k' a', ¬ (u = .int k a ∧ u' = .int k' a')) ∧ (∀ a a', ¬ (u = .string a ∧ u' = .string a')) ∧
          (∀ k a k' a', ¬ (u = .float k a ∧ u' = .float k' a')) ∧ (∀ k a b k' a' b', ¬ (u = .complex k a b ∧ u' = .complex k' a' b')) := by
        intro α u u' w hu hu'
        have hr := run_eqT 10000 t _ _ _ _ _ w hb hu hu'
        refine ⟨run_eqGuard_other ?_ ?_, hr, ?_⟩
        · rintro cs ds ⟨rfl, rfl⟩
          cases hu; rename_i hu; have := hu.one; simp [Value.oneCell'] at this
        · intro h1 h2
          have := nilOk_ok hlit hu hu' h1 h2 ⟨x, rfl, hnb.1⟩ ⟨y, rfl, hnb.2⟩
          exact hlo this
        · cases hu; rename_i hu; cases hu'; rename_i hu'
          refine ⟨?_, ?_, ?_, ?_⟩
          · rintro k a k' a' ⟨rfl, rfl⟩
            cases hu <;> cases hu' <;> first | exact n1 _ _ _ _ rfl rfl | exact hnb.1 rfl | exact hnb.2 rfl
          · rintro a a' ⟨rfl, rfl⟩
            cases hu <;> cases hu' <;> first | exact n2 _ _ rfl rfl | exact hnb.1 rfl | exact hnb.2 rfl
          · rintro k a k' a' ⟨rfl, rfl⟩
            cases hu <;> cases hu' <;> simp only [eqT] at hb <;> split at hb <;> simp_all [eqPtr, eqSl, eqFn, eqIf]
          · rintro k a b k' a' b' ⟨rfl, rfl⟩
            cases hu <;> cases hu' <;> simp only [eqT] at hb <;> split at hb <;> simp_all [eqPtr, eqSl, eqFn, eqIf]
      rcases eqOp_inv e2 with ⟨rfl, h⟩ | ⟨rfl, h⟩
      · refine ⟨_, h, rfl, fun α u u' w hu hu' => ?_⟩
        obtain ⟨k1, k2, k3, k4, k5, k6⟩ := key α u u' w hu hu'
        simp only [Sem.run_bind, k1, Result.andThen_ok]
        exact (binOp_eq k2 k3 k4 k5 k6).1 rfl
      · refine ⟨_, h, rfl, fun α u u' w hu hu' => ?_⟩
        obtain ⟨k1, k2, k3, k4, k5, k6⟩ := key α u u' w hu hu'
        simp only [Sem.run_bind, k1, Result.andThen_ok]
        exact (binOp_eq k2 k3 k4 k5 k6).2 rfl
    · cases e

theorem unA_inv {β : Type} {op : UnOp} {x : AC} {K : AV → Option β} {r : β} (e : unA op x K = some r) :
    ∃ v, K (.ac (.one (.val v))) = some r ∧ v.oneCell' = true ∧ ∀ (P : Program) (α : Nat → Loc) (a : Value) (w : World), ACV α x a → (Op.unary op a).run P w = .ok v w := by
  unfold unA at e
  split at e
  · refine ⟨_, e, rfl, fun P α a w hx => ?_⟩
    cases hx; rename_i hx; cases hx; simp [Op.unary, Op.intArith]
  · refine ⟨_, e, rfl, fun P α a w hx => ?_⟩
    cases hx; rename_i hx; cases hx; simp [Op.unary, Op.intBits, bXor]
  · refine ⟨_, e, rfl, fun P α a w hx => ?_⟩
    cases hx; rename_i hx; cases hx; simp [Op.unary]
  · cases e

theorem convA_inv {β : Type} {P : Program} {src dst : TypeId} {x : AC} {K : AV → Option β} {r : β} (e : convA P src dst x K = some r) :
    ∃ v, K (.ac (.one (.val v))) = some r ∧ v.oneCell' = true ∧ ∀ (α : Nat → Loc) (a : Value) (w : World), ACV α x a → (convert src dst a).run P w = .ok v w := by
  unfold convA at e
  split at e
  · rename_i k1 k2 k3 n h1 h2
    refine ⟨_, e, rfl, fun α a w hx => ?_⟩
    cases hx; rename_i hx; cases hx
    simp [convert, run_underlying h1, run_underlying h2, Conv.intToInt]
  · cases e

/-! ## struct and array literals -/
theorem fold_splice (u : List Value) : ∀ (off j : Nat) (cells : Array Value), off + j + u.length ≤ cells.size →
    ((u.zipIdx j).foldl (fun (cs : Array Value) (p : Value × Nat) => cs.setIfInBounds (off + p.2) p.1) cells).toList = cells.toList.take (off + j) ++ u ++ cells.toList.drop (off + j + u.length) := by
  induction u with
  | nil => intro off j cells h; simp
  | cons v u ih =>
    intro off j cells h
    simp only [List.zipIdx_cons, List.foldl_cons]
    rw [ih off (j + 1) _ (by simp at h ⊢; omega)]
    simp only [Array.toList_setIfInBounds]
    have hl : off + j < cells.toList.length := by simp at h ⊢; omega
    apply List.ext_getElem?
    intro q
    have h1 : off + (j + 1) + u.length ≤ (cells.toList.set (off + j) v).length := by simp at h ⊢; omega
    have h2 : off + j + (v :: u).length ≤ cells.toList.length := by simpa using h
    rw [splice_get h1, splice_get h2]
    simp only [List.length_cons]
    by_cases c1 : q < off + j
    · rw [if_pos (by omega), if_pos c1, List.getElem?_set_ne (by omega)]
    · rw [if_neg c1]
      by_cases c2 : q = off + j
      · subst c2
        rw [if_pos (by omega), if_pos (by omega), List.getElem?_set, if_pos rfl, if_pos hl]
        simp
      · rw [if_neg (by omega)]
        by_cases c3 : q < off + j + (u.length + 1)
        · rw [if_pos (by omega), if_pos c3]
          obtain ⟨m, hm⟩ : ∃ m, q - (off + j) = m + 1 := ⟨q - (off + j) - 1, by omega⟩
          rw [hm, show q - (off + (j + 1)) = m by omega]; simp
        · rw [if_neg (by omega), if_neg c3, List.getElem?_set_ne (by omega)]

inductive PartsV (α : Nat → Loc) : List (Nat × AC) → List (Nat × Value) → Prop where
  | nil : PartsV α [] []
  | cons {i : Nat} {y : AC} {v : Value} {l : List (Nat × AC)} {vs : List (Nat × Value)} : ACV α y v → PartsV α l vs → PartsV α ((i, y) :: l) ((i, v) :: vs)

theorem fill_ok {α : Nat → Loc} {place : Nat → Option (Nat × Nat)} : ∀ {ps : List (Nat × AC)} {vs : List (Nat × Value)} {l l' : List Seg} {cells : Array Value}, setParts place ps l = some l' →
    PartsV α ps vs → SegsV α l cells.toList → ∃ cells', Instr.fill place cells vs = some cells' ∧ SegsV α l' cells'.toList
  | [], vs, l, l', cells, e, hp, hl => by cases e; cases hp; exact ⟨cells, rfl, hl⟩
  | (i, y) :: ps, vs, l, l', cells, e, hp, hl => by
    cases hp with
    | @cons _ _ v _ vs' hy h2 =>
      simp only [setParts] at e
      split at e
      · rename_i off size hpl
        split at e
        · rename_i hsz
          have hsz := Nat.eq_of_beq_eq_true hsz
          split at e
          · rename_i l1 hl1
            obtain ⟨g1, g2⟩ := storeS_ok hl1 hy hl
            have hvl : v.cells.toList.length = size := by rw [hy.cells.len, hsz]
            have hvs : v.cells.size = size := by simpa using hvl
            have hroom : ¬ (off + v.cells.size > cells.size) := by simp at g2; omega
            have hf := fold_splice v.cells.toList off 0 cells (by simpa using g2)
            obtain ⟨cells', k1, k2⟩ := fill_ok (cells := v.cells.zipIdx.foldl (fun cs (c, j) => cs.setIfInBounds (off + j) c) cells) e h2 (by
              rw [← Array.foldl_toList, Array.toList_zipIdx]
              have : (List.foldl (fun (cs : Array Value) (x : Value × Nat) => match x with | (c, j) => cs.setIfInBounds (off + j) c) cells (v.cells.toList.zipIdx)) =
                (v.cells.toList.zipIdx.foldl (fun (cs : Array Value) (p : Value × Nat) => cs.setIfInBounds (off + p.2) p.1) cells) := rfl
              rw [this, hf]
              simpa using g1)
            refine ⟨cells', ?_, k2⟩
            simp only [Instr.fill, hpl, hvs]
            simp [show ¬ cells.size < off + size by omega]
            simpa using k1
          · cases e
        · cases e
      · cases e

end Ev

namespace Ev
open Go

theorem partsK_inv {β : Type} {C : Cfg} {fr : Fr} : ∀ {ps : List (Nat × Operand)} {K : List (Nat × AC) → Option β} {r : β}, partsK C fr ps K = some r →
    ∃ l, K l = some r ∧ ∀ {xs : List Operand} {h : Heap} {α : Nat → Loc} {w : World} {a : Act}, Hyp C xs fr h α w a → (∀ p ∈ ps, p.2 ∈ xs) →
      PartsV α l (ps.map fun p => (p.1, a.eval p.2)) ∧ ∀ p ∈ l, acWF h p.2
  | [], K, r, e => ⟨[], e, fun _ _ => ⟨.nil, fun _ hp => by cases hp⟩⟩
  | (i, x) :: ps, K, r, e => by
    obtain ⟨y, h1, e1⟩ := evalC_inv e
    obtain ⟨l, h2, h3⟩ := partsK_inv e1
    refine ⟨(i, y) :: l, h2, fun H hm => ?_⟩
    obtain ⟨k1, k2⟩ := h1.okC H (hm (i, x) (by simp))
    obtain ⟨k3, k4⟩ := h3 H (fun p hp => hm p (by simp [hp]))
    exact ⟨.cons k1 k3, fun p hp => by rcases List.mem_cons.1 hp with rfl | hp; exact k2; exact k4 p hp⟩

theorem places_ok {P : Program} : ∀ {fs : List Field}, (∀ f ∈ fs, (P.info? f.type).isSome = true) → ∃ places, fs.mapM (fun f => (P.info? f.type).map fun i => (f.offset, i.size)) = some places ∧
    ∀ (i : Nat), places[i]? = (fs[i]?).bind fun (f : Field) => (P.info? f.type).map fun j => (f.offset, j.size)
  | [], _ => ⟨[], by simp, fun i => by simp⟩
  | f :: fs, h => by
    obtain ⟨ps, h1, h2⟩ := places_ok (P := P) (fs := fs) fun g hg => h g (by simp [hg])
    obtain ⟨j, hj⟩ := Option.isSome_iff_exists.1 (h f (by simp))
    refine ⟨(f.offset, j.size) :: ps, by simp [List.mapM_cons, hj, h1], fun i => ?_⟩
    cases i with
    | zero => simp [hj]
    | succ i => simpa using h2 i

theorem setParts_WF {h : Heap} {place : Nat → Option (Nat × Nat)} : ∀ {ps : List (Nat × AC)} {l l' : List Seg}, setParts place ps l = some l' → (∀ p ∈ ps, acWF h p.2) → segsWF h l → segsWF h l'
  | [], l, l', e, _, hl => by cases e; exact hl
  | (i, y) :: ps, l, l', e, hp, hl => by
    simp only [setParts] at e
    split at e
    · split at e
      · split at e
        · rename_i l1 hl1
          exact setParts_WF e (fun p hp' => hp p (by simp [hp'])) (storeS_WF hl1 hl (hp (i, y) (by simp)))
        · cases e
      · cases e
    · cases e

theorem segsWF_reps {h : Heap} {l : List Seg} (hl : segsWF h l) : ∀ n, segsWF h (reps l n)
  | 0 => trivial
  | n + 1 => segsWF_append.2 ⟨hl, segsWF_reps hl n⟩

theorem zeroGo_vals {h : Heap} {z : TypeId → Option (List Seg)} (hz : ∀ t l, z t = some l → segsWF h l) : ∀ {fs : List Field} {l : List Seg}, zeroS.go z fs = some l → segsWF h l
  | [], l, e => by cases e; trivial
  | f :: fs, l, e => by
    simp only [zeroS.go] at e
    split at e
    · rename_i a b ha hb
      cases e
      exact segsWF_append.2 ⟨hz _ _ ha, zeroGo_vals hz hb⟩
    · cases e

theorem zeroS_vals {P : Program} {h : Heap} : ∀ {d : Nat} {t : TypeId} {l : List Seg}, zeroS P d t = some l → segsWF h l
  | 0, t, l, e => by simp [zeroS] at e
  | d + 1, t, l, e => by
    simp only [zeroS] at e
    split at e
    · cases e; exact ⟨trivial, trivial⟩
    · cases e; exact ⟨trivial, trivial⟩
    · cases e; exact ⟨trivial, trivial⟩
    · cases e; exact ⟨trivial, trivial⟩
    · cases e; exact ⟨trivial, trivial⟩
    · cases e; exact ⟨trivial, trivial⟩
    · cases e; exact ⟨trivial, trivial⟩
    · split at e
      · cases e; trivial
      · split at e
        · rename_i l0 h0
          cases e
          exact segsWF_reps (zeroS_vals h0) _
        · cases e
    · exact zeroGo_vals (fun t l => zeroS_vals) e
    · cases e

theorem zeroA_WF {P : Program} {h : Heap} {t : TypeId} {z : AC} (e : zeroA P t = some z) : acWF h z := by
  unfold zeroA at e
  have e : zeroA0 P t = some z := by
    split at e
    · exact e
    · cases e
  unfold zeroA0 at e
  split at e
  · rename_i l h1 _; cases e; exact zeroS_vals h1
  · rename_i x h1 _; cases e; exact zeroS_vals (l := [.c x]) h1
  · cases e

theorem buildK_inv {β : Type} {P : Program} (hz : ZeroOk P) {t : TypeId} {ps : List (Nat × AC)} {K : AC → Option β} {r : β} (e : buildK P t ps K = some r) :
    ∃ x, K x = some r ∧ ∀ (α : Nat → Loc) (h : Heap) (w : World) (vs : List (Nat × Value)), PartsV α ps vs → (∀ p ∈ ps, acWF h p.2) → ∃ u, (Instr.build t vs.toArray).run P w = .ok u w ∧ ACV α x u ∧ acWF h x := by
  unfold buildK at e
  split at e
  · rename_i z fs hzero hu
    obtain ⟨hall, e⟩ := ifK_inv e
    obtain ⟨l, hl, e⟩ := optK_inv e
    refine ⟨_, e, fun α h w vs hp hw => ?_⟩
    obtain ⟨i, v, hi, hv, hzv⟩ := hz t _ hzero
    have hzv := hzv α
    cases hzv with
    | @agg _ zs hzs =>
      obtain ⟨places, p1, p2⟩ := places_ok (P := P) (fs := fs.toList) (fun f hf => allB_ok hall f hf)
      have hplace : (fun i => places.toArray[i]?) = placeOf P fs := by
        funext i
        have := p2 i
        simp only [List.getElem?_toArray, this, placeOf, Array.getElem?_toList]
        cases fs[i]? with
        | none => rfl
        | some f => simp only [Option.bind_some]; cases P.info? f.type <;> rfl
      obtain ⟨cells', k1, k2⟩ := fill_ok (cells := zs.toArray) hl hp (by simpa using hzs)
      refine ⟨.agg cells', run_build w t vs.toArray cells' ?_, ?_, setParts_WF hl hw (zeroA_WF hzero)⟩
      · unfold Program.built
        simp only [hi, hu, hv, p1]
        rw [hplace]
        simpa [Value.cells] using k1
      · have := ACV.agg k2; simpa using this
  · rename_i z n et hzero hu
    obtain ⟨j, hj, e⟩ := optK_inv e
    obtain ⟨l, hl, e⟩ := optK_inv e
    refine ⟨_, e, fun α h w vs hp hw => ?_⟩
    obtain ⟨i, v, hi, hv, hzv⟩ := hz t _ hzero
    have hzv := hzv α
    cases hzv with
    | @agg _ zs hzs =>
      obtain ⟨cells', k1, k2⟩ := fill_ok (cells := zs.toArray) hl hp (by simpa using hzs)
      refine ⟨.agg cells', run_build w t vs.toArray cells' ?_, ?_, setParts_WF hl hw (zeroA_WF hzero)⟩
      · unfold Program.built
        simp only [hi, hu, hv, hj]
        simpa [Value.cells] using k1
      · have := ACV.agg k2; simpa using this
  · cases e

/-! ## Addresses -/
theorem run_partD {P : Program} {α : Nat → Loc} {w : World} {t : TypeId} {l : List Seg} {o idx sz fo : Nat} {x : AC} {vs : List Value} (e : loadD P t l o idx sz fo = some x) (hv : SegsV α l vs)
    (hn : ∀ m, arrLen l o = some m → idx < m) : ∃ u, (part t vs.toArray (o + idx * sz + fo)).run P w = .ok u w ∧ ACV α x u := by
  -- a world whose block 0 holds the cells: a load there is a part here
  have h1 : ∀ (a : Addr) (wr : World), True := fun _ _ => trivial
  unfold loadD at e
  split at e
  · rename_i n k f hs
    have hidx := hn n (by simp [arrLen, hs])
    obtain ⟨a, b, ha, hl, hd⟩ := segAt_ok hs hv
    cases ha with
    | ri hnil =>
      cases hnil
      split at e
      · rename_i i hg hi
        split at e
        · rename_i hsz
          split at e
          · rename_i hfo
            cases e
            have hsz := Nat.eq_of_beq_eq_true hsz
            have hfo := Nat.eq_of_beq_eq_true hfo
            subst hsz hfo
            refine ⟨.int k (f idx), run_part_cell hg ?_, .one (.val _ rfl)⟩
            rw [Nat.mul_one, Nat.add_zero]
            simp only [List.getElem?_toArray]
            rw [← List.getElem?_drop, hd, List.getElem?_append_left (by simpa using hidx)]
            simp [hidx]
          · cases e
        · cases e
      · cases e
  · rename_i n sz' f hs
    have hidx := hn n (by simp [arrLen, hs])
    obtain ⟨a, b, ha, hl, hd⟩ := segAt_ok hs hv
    cases ha with
    | r hf hnil =>
      cases hnil
      split at e
      · rename_i hsz
        have hsz := Nat.eq_of_beq_eq_true hsz
        subst hsz
        have hrow : ∀ j, j < sz → vs[o + (idx * sz + j)]? = (f idx)[j]? := fun j hj => by
          rw [← List.getElem?_drop, hd, List.append_nil, List.getElem?_append_left]
          · exact flatMap_get (fun j hj => (hf j hj).1) idx j hidx hj
          · rw [flatMap_length (fun j hj => (hf j hj).1)]
            have : (idx + 1) * sz ≤ n * sz := Nat.mul_le_mul_right _ hidx
            rw [Nat.succ_mul] at this; omega
        have hlen : (f idx).length = sz := (hf idx hidx).1
        unfold loadE at e
        split at e
        · rename_i i hi ha
          simp only at e
          split at e
          · rename_i hb
            cases e
            have hb := Nat.eq_of_beq_eq_true hb
            refine ⟨_, run_part_agg hi ha, ?_⟩
            have hag := ACV.agg (α := α) (valsV (α := α) (l := ((f idx).drop fo).take i.size) fun u hu => (hf idx hidx).2 u (List.mem_of_mem_drop (List.mem_of_mem_take hu)))
            have : (Value.agg (vs.toArray.extract (o + idx * sz + fo) (o + idx * sz + fo + i.size))) = .agg (((f idx).drop fo).take i.size).toArray := by
              congr 1
              apply Array.ext'
              simp only [Array.toList_extract]
              rw [List.extract_eq_take_drop]
              apply List.ext_getElem?
              intro q
              rw [List.getElem?_take, List.getElem?_take]
              have e0 : o + idx * sz + fo + i.size - (o + idx * sz + fo) = i.size := by omega
              rw [e0]
              by_cases hq : q < i.size
              · rw [if_pos hq, if_pos hq, List.getElem?_drop, List.getElem?_drop]
                have hl2 : (((f idx).drop fo).take i.size).length = i.size := hb
                simp at hl2
                rw [show o + idx * sz + fo + q = o + (idx * sz + (fo + q)) by omega]
                exact hrow _ (by omega)
              · rw [if_neg hq, if_neg hq]
            rw [this]; exact hag
          · cases e
        · rename_i i hi ha
          split at e
          · rename_i y hy
            cases e
            have hfo : fo < sz := by have := lt_of_get hy; omega
            refine ⟨y, run_part_cell ha ?_, .one (.val _ ((hf idx hidx).2 y (List.mem_of_getElem? hy)))⟩
            simp only [List.getElem?_toArray]
            rw [show o + idx * sz + fo = o + (idx * sz + fo) by omega, hrow fo hfo]; exact hy
          · cases e
        · cases e
      · cases e
  · exact run_part e hv

theorem fieldK_inv {β : Type} {P : Program} {s : TypeId} {f : Nat} {K : Field → Option β} {r : β} (e : fieldK P s f K = some r) :
    ∃ fs fd, P.underlying s = some (.struct fs) ∧ fs[f]? = some fd ∧ K fd = some r := by
  unfold fieldK at e
  split at e
  · rename_i fs hu
    obtain ⟨fd, h1, h2⟩ := optK_inv e
    exact ⟨fs, fd, hu, h1, h2⟩
  · cases e

theorem fieldAddrK_inv {β : Type} {P : Program} {s : TypeId} {f : Nat} {fs : Array Field} {fd : Field} (hu : P.underlying s = some (.struct fs)) (hf : fs[f]? = some fd) {a : AC} {K : AC → Option β} {r : β}
    (e : fieldAddrK P fd a K = some r) : ∃ x, K x = some r ∧ ∀ (α : Nat → Loc) (h : Heap) (w : World) (v : Value), ACV α a v → acWF h a → ∃ u, (Instr.fieldAt s v f).run P w = .ok u w ∧ ACV α x u ∧ acWF h x := by
  unfold fieldAddrK at e
  obtain ⟨i, hi, e1⟩ := optK_inv e
  obtain ⟨hne, e2⟩ := ifK_inv e1
  have hne : i.size ≠ 0 := fun h0 => by rw [h0] at hne; simp at hne
  clear e e1
  split at e2
  · rename_i j off
    refine ⟨_, e2, fun α h w v hv hw => ?_⟩
    cases hv; rename_i hv; cases hv
    refine ⟨.pointer (some ⟨(α j).b, (α j).o + (off + fd.offset), none⟩), ?_, .one (.ptr j _), hw⟩
    simp [Instr.fieldAt, run_underlying hu, hf, Instr.sureAddr, fieldPlace, run_sizeOf' hi, hne, addr_add, Nat.add_assoc]
  · rename_i j off idx sz fo
    refine ⟨_, e2, fun α h w v hv hw => ?_⟩
    cases hv; rename_i hv; cases hv
    refine ⟨.pointer (some ⟨(α j).b, (α j).o + (off + idx * sz + (fo + fd.offset)), none⟩), ?_, .one (.dptr j off idx sz _), hw⟩
    simp [Instr.fieldAt, run_underlying hu, hf, Instr.sureAddr, fieldPlace, run_sizeOf' hi, hne, addr_add, Nat.add_assoc]
  · cases e2

theorem intK_inv {β : Type} {x : AC} {K : Int → Option β} {r : β} (e : intK x K = some r) : ∃ k n, x = .one (.val (.int k n)) ∧ K n = some r := by
  unfold intK at e
  split at e
  · exact ⟨_, _, rfl, e⟩
  · cases e

theorem boolK_inv {β : Type} {x : AC} {K : Bool → Option β} {r : β} (e : boolK x K = some r) : ∃ b, x = .one (.val (.bool b)) ∧ K b = some r := by
  unfold boolK at e
  split at e
  · exact ⟨_, rfl, e⟩
  · cases e

theorem indexAddrK_inv {β : Type} {P : Program} {h : Heap} {t : TypeId} {a : AC} {n : Int} {K : AC → Option β} {r : β} (e : indexAddrK P h t a n K = some r) :
    ∃ x, K x = some r ∧ ∀ (α : Nat → Loc) (w : World) (v : Value) (k : IntKind), ACV α a v → acWF h a → ∃ u, (Instr.indexAt t v (.int k n)).run P w = .ok u w ∧ ACV α x u ∧ acWF h x := by
  unfold indexAddrK at e
  split at e
  · rename_i len et i off hu
    obtain ⟨ei, hei, e1⟩ := optK_inv e
    obtain ⟨b, hb, e2⟩ := getK_inv e1
    obtain ⟨hlen, e3⟩ := ifK_inv e2
    rcases cond_inv e3 with ⟨hin, e4⟩ | ⟨_, e4⟩
    · have hin : 0 ≤ n ∧ n < len := by simpa [inB] using hin
      refine ⟨_, e4, fun α w v k hv hw => ?_⟩
      cases hv; rename_i hv; cases hv
      refine ⟨.pointer (some ⟨(α i).b, (α i).o + (off + n.toNat * ei.size + 0), none⟩), ?_, .one (.dptr i off _ _ 0), ⟨b, hb, fun m hm => ?_⟩, trivial⟩
      · simp [Instr.indexAt, asIntOf, run_underlying hu, Instr.sureAddr, hin, run_sizeOf' hei, addr_add, Nat.add_assoc]
      · simp only [lenOk, hm] at hlen
        have := Nat.le_of_ble_eq_true hlen
        omega
    · cases e4
  · rename_i len et i off idx sz fo hu
    obtain ⟨ei, hei, e1⟩ := optK_inv e
    rcases cond_inv e1 with ⟨hin, e4⟩ | ⟨_, e4⟩
    · have hin : 0 ≤ n ∧ n < len := by simpa [inB] using hin
      refine ⟨_, e4, fun α w v k hv hw => ?_⟩
      obtain ⟨⟨b, hb, hx⟩, _⟩ := hw
      cases hv; rename_i hv; cases hv
      refine ⟨.pointer (some ⟨(α i).b, (α i).o + (off + idx * sz + (fo + n.toNat * ei.size)), none⟩), ?_, .one (.dptr i off idx sz _), ⟨b, hb, hx⟩, trivial⟩
      simp [Instr.indexAt, asIntOf, run_underlying hu, Instr.sureAddr, hin, run_sizeOf' hei, addr_add, Nat.add_assoc]
    · cases e4
  · rename_i et i sz st len hu
    obtain ⟨ei, hei, e1⟩ := optK_inv e
    obtain ⟨hsz, e2⟩ := ifK_inv e1
    have hsz := Nat.eq_of_beq_eq_true hsz
    subst hsz
    rcases cond_inv e2 with ⟨hin, e3⟩ | ⟨_, e3⟩
    · have hin : 0 ≤ n ∧ n < len := by simpa [inB] using hin
      refine ⟨_, e3, fun α w v k hv hw => ?_⟩
      obtain ⟨⟨b, hb, he, hn⟩, _⟩ := hw
      cases hv; rename_i hv
      cases hv with
      | gsNil => exfalso; have := hin.2; have := hin.1; simp at *; omega
      | gs _ _ _ _ ad h1 h2 h3 h4 =>
        have h5 : ad = ⟨(α i).b, (α i).o + st * ei.size, none⟩ := by
          rcases h4 with h4 | h4
          · exfalso; omega
          · exact h4
        subst h5
        refine ⟨.pointer (some ⟨(α i).b, (α i).o + (0 + (st + n.toNat) * ei.size + 0), none⟩), ?_, .one (.dptr i 0 _ _ 0), ⟨b, hb, fun m hm => ?_⟩, trivial⟩
        · simp [Instr.indexAt, asIntOf, run_underlying hu, hin, run_sizeOf' hei, addr_add, Nat.add_assoc, Nat.add_mul]
        · have := hn m hm; omega
    · cases e3
  · rename_i et i off sz st len cap hu
    obtain ⟨ei, hei, e1⟩ := optK_inv e
    obtain ⟨hsz, e2⟩ := ifK_inv e1
    have hsz := Nat.eq_of_beq_eq_true hsz
    subst hsz
    rcases cond_inv e2 with ⟨hin, e3⟩ | ⟨_, e3⟩
    · have hin : 0 ≤ n ∧ n < len := by simpa [inB] using hin
      refine ⟨_, e3, fun α w v k hv hw => ?_⟩
      obtain ⟨⟨b, hb, hn⟩, _⟩ := hw
      cases hv; rename_i hv
      cases hv with
      | sl _ _ _ _ _ _ ad h1 h2 h3 =>
        have h5 : ad = ⟨(α i).b, (α i).o + (off + st * ei.size), none⟩ := by
          rcases h3 with h3 | h3
          · exfalso; omega
          · exact h3
        subst h5
        refine ⟨.pointer (some ⟨(α i).b, (α i).o + (off + (st + n.toNat) * ei.size + 0), none⟩), ?_, .one (.dptr i off _ _ 0), ⟨b, hb, fun m hm => ?_⟩, trivial⟩
        · simp [Instr.indexAt, asIntOf, run_underlying hu, hin, run_sizeOf' hei, addr_add, Nat.add_assoc, Nat.add_mul]
        · have := hn m hm; omega
    · cases e3
  · cases e

theorem indexK_inv {β : Type} {P : Program} {t : TypeId} {a : AC} {n : Int} {K : AC → Option β} {r : β} (e : indexK P t a n K = some r) :
    ∃ x, K x = some r ∧ ∀ (α : Nat → Loc) (h : Heap) (w : World) (v : Value) (k : IntKind), ACV α a v → acWF h a → ∃ u, (Instr.index t v (.int k n)).run P w = .ok u w ∧ ACV α x u ∧ acWF h x := by
  unfold indexK at e
  split at e
  · rename_i len et l hu
    obtain ⟨ei, hei, e1⟩ := optK_inv e
    obtain ⟨hlen, e1⟩ := ifK_inv e1
    rcases cond_inv e1 with ⟨hin, e2⟩ | ⟨_, e2⟩
    · have hin : 0 ≤ n ∧ n < len := by simpa [inB] using hin
      obtain ⟨x, hx, e3⟩ := optK_inv e2
      refine ⟨_, e3, fun α h w v k hv hw => ?_⟩
      cases hv with
      | @agg _ vs hv =>
        have hn : ∀ m, arrLen l 0 = some m → n.toNat < m := fun m hm => by
          simp only [lenOk, hm] at hlen
          have := Nat.le_of_ble_eq_true hlen
          omega
        obtain ⟨u, k1, k2⟩ := run_partD (P := P) (w := w) hx hv hn
        refine ⟨u, ?_, k2, loadD_WF hx hw⟩
        simp only [Instr.index, asIntOf, Sem.run_bind, Sem.run_pure, Result.andThen_ok, run_underlying hu, hin, and_self, if_true, run_sizeOf' hei]
        simpa using k1
    · cases e2
  · rename_i s hu
    rcases cond_inv e with ⟨hin, e2⟩ | ⟨_, e2⟩
    · have hin : 0 ≤ n ∧ n < s.size := by simpa [inB] using hin
      refine ⟨_, e2, fun α h w v k hv hw => ?_⟩
      cases hv; rename_i hv; cases hv
      refine ⟨.int .u8 (byteAt s n.toNat), ?_, .one (.val _ rfl), trivial, trivial⟩
      have hlt : n.toNat < s.size := by omega
      simp [Instr.index, asIntOf, run_underlying hu, hin, byteAt]
    · cases e2
  · cases e

end Ev

namespace Ev
open Go

/-! ## Runs of elements -/
def Sq.el : Sq → Nat → List Value
  | .ri k f => fun j => [.int k (f j)]
  | .r _ f => f

def Sq.vals (n : Nat) (q : Sq) : List Value := (List.range n).flatMap q.el
def Sq.ok (n : Nat) (q : Sq) : Prop := ∀ j, j < n → (q.el j).length = q.sz ∧ ∀ u ∈ q.el j, u.oneCell' = true

theorem flatMap_single {γ : Type} (f : Nat → γ) (l : List Nat) : l.flatMap (fun j => [f j]) = l.map f := by
  induction l with
  | nil => rfl
  | cons x l ih => simp [List.flatMap_cons, ih]

theorem Sq.ok_ri {k : IntKind} {f : Nat → Int} {n : Nat} : (Sq.ri k f).ok n := fun j _ => ⟨rfl, fun u hu => by simp [Sq.el] at hu; subst hu; rfl⟩

theorem Sq.vals_ri {k : IntKind} {f : Nat → Int} {n : Nat} : (Sq.ri k f).vals n = (List.range n).map fun j => .int k (f j) := flatMap_single _ _

theorem Sq.segsV {α : Nat → Loc} {q : Sq} {n : Nat} (h : q.ok n) {l : List Seg} {vs : List Value} (hl : SegsV α l vs) : SegsV α (q.seg n :: l) (q.vals n ++ vs) := by
  cases q with
  | ri k f => rw [Sq.vals_ri]; exact .ri hl
  | r sz f => exact .r h hl

theorem Sq.segsV1 {α : Nat → Loc} {q : Sq} {n : Nat} (h : q.ok n) : SegsV α [q.seg n] (q.vals n) := by
  have := Sq.segsV (α := α) h .nil
  simpa using this

theorem Sq.of_segsV {α : Nat → Loc} {q : Sq} {n : Nat} {vs : List Value} (h : SegsV α [q.seg n] vs) : vs = q.vals n ∧ q.ok n := by
  cases q with
  | ri k f =>
    cases h with
    | ri hl => cases hl; exact ⟨by rw [Sq.vals_ri]; simp, Sq.ok_ri⟩
  | r sz f =>
    cases h with
    | r hf hl => cases hl; exact ⟨by simp [Sq.vals, Sq.el], hf⟩

theorem Sq.vals_len {q : Sq} {n : Nat} (h : q.ok n) : (q.vals n).length = n * q.sz := flatMap_length fun j hj => (h j hj).1

theorem Sq.vals_one {q : Sq} {n : Nat} (h : q.ok n) : ∀ u ∈ q.vals n, u.oneCell' = true := fun u hu => by
  obtain ⟨j, hj, hu⟩ := List.mem_flatMap.1 hu
  exact (h j (by simpa using hj)).2 u hu

theorem Sq.seg_len {q : Sq} {n : Nat} : (q.seg n).len = n * q.sz := by cases q <;> simp [Sq.seg, Seg.len, Sq.sz]
theorem Sq.arrLen_seg {q : Sq} {n : Nat} {l : List Seg} : arrLen (q.seg n :: l) 0 = some n := by cases q <;> rfl

theorem range_add_flat {γ : Type} (g : Nat → List γ) (n m : Nat) : (List.range (n + m)).flatMap g = (List.range n).flatMap g ++ (List.range m).flatMap fun j => g (n + j) := by
  rw [List.range_add, List.flatMap_append, List.flatMap_map]

theorem flat_congr {γ : Type} {f g : Nat → List γ} {n : Nat} (h : ∀ j, j < n → f j = g j) : (List.range n).flatMap f = (List.range n).flatMap g := by
  have key : ∀ l : List Nat, (∀ j ∈ l, f j = g j) → l.flatMap f = l.flatMap g := by
    intro l
    induction l with
    | nil => intro _; rfl
    | cons x l ih => intro hl; rw [List.flatMap_cons, List.flatMap_cons, hl x (by simp), ih fun j hj => hl j (by simp [hj])]
  exact key _ fun j hj => h j (by simpa using hj)

theorem sft_eq {γ : Type} (st : Nat) (f : Nat → γ) (j : Nat) : sft st f j = f (st + j) := by
  cases st with
  | zero => simp [sft]
  | succ n => rfl

theorem Sq.sft_el (st : Nat) (q : Sq) (j : Nat) : (q.sft st).el j = q.el (st + j) := by
  cases q <;> simp [Sq.sft, Sq.el, sft_eq]
theorem Sq.sft_sz (st : Nat) (q : Sq) : (q.sft st).sz = q.sz := by cases q <;> rfl

theorem Sq.sft_ok {q : Sq} {n st len : Nat} (h : q.ok n) (hl : st + len ≤ n) : (q.sft st).ok len := fun j hj => by
  rw [Sq.sft_el, Sq.sft_sz]; exact h (st + j) (by omega)

/-- what lies from element st on -/
theorem Sq.vals_split {q : Sq} {n st len : Nat} (h : q.ok n) (hl : st + len ≤ n) : ∃ a b, q.vals n = a ++ (q.sft st).vals len ++ b ∧ a.length = st * q.sz := by
  obtain ⟨r, rfl⟩ : ∃ r, n = st + len + r := ⟨n - (st + len), by omega⟩
  refine ⟨(List.range st).flatMap q.el, (List.range r).flatMap fun j => q.el (st + len + j), ?_, flatMap_length fun j hj => (h j (by omega)).1⟩
  unfold Sq.vals
  rw [range_add_flat, range_add_flat]
  congr 2
  exact flat_congr fun j _ => (Sq.sft_el st q j).symm

theorem catQ_ok {n : Nat} {q0 q1 q' : Sq} (e : catQ n q0 q1 = some q') : q'.sz = q0.sz ∧ q1.sz = q0.sz ∧ ∀ j, q'.el j = if j < n then q0.el j else q1.el (j - n) := by
  cases q0 <;> cases q1 <;> simp only [catQ] at e
  · split at e
    · rename_i hk; cases e; subst hk
      refine ⟨rfl, rfl, fun j => ?_⟩
      simp only [Sq.el, catF]
      by_cases hj : j < n
      · have : Nat.blt j n = true := Nat.ble_eq_true_of_le hj
        simp [this, hj]
      · have : Nat.blt j n = false := by
          cases h : Nat.blt j n with
          | false => rfl
          | true => exact absurd (Nat.le_of_ble_eq_true h) hj
        simp [this, hj]
    · cases e
  · cases e
  · cases e
  · split at e
    · rename_i hk; have hk := Nat.eq_of_beq_eq_true hk; cases e; subst hk
      refine ⟨rfl, rfl, fun j => ?_⟩
      simp only [Sq.el, catF]
      by_cases hj : j < n
      · have : Nat.blt j n = true := Nat.ble_eq_true_of_le hj
        simp [this, hj]
      · have : Nat.blt j n = false := by
          cases h : Nat.blt j n with
          | false => rfl
          | true => exact absurd (Nat.le_of_ble_eq_true h) hj
        simp [this, hj]
    · cases e

theorem catQ_vals {n m : Nat} {q0 q1 q' : Sq} (e : catQ n q0 q1 = some q') (h0 : q0.ok n) (h1 : q1.ok m) : q'.ok (n + m) ∧ q'.vals (n + m) = q0.vals n ++ q1.vals m := by
  obtain ⟨s1, s2, he⟩ := catQ_ok e
  refine ⟨fun j hj => ?_, ?_⟩
  · rw [he, s1]
    by_cases hn : j < n
    · rw [if_pos hn]; exact h0 j hn
    · rw [if_neg hn, ← s2]; exact h1 (j - n) (by omega)
  · unfold Sq.vals
    rw [range_add_flat]
    congr 1
    · exact flat_congr fun j hj => by rw [he, if_pos hj]
    · exact flat_congr fun j hj => by rw [he, if_neg (by omega)]; congr 1; omega

theorem blt_eq (a b : Nat) : Nat.blt a b = decide (a < b) := by
  cases h : Nat.blt a b with
  | true => have := Nat.le_of_ble_eq_true h; simp; omega
  | false =>
    have : ¬ a < b := fun hl => by
      have := Nat.ble_eq_true_of_le (show a + 1 ≤ b from hl)
      rw [show Nat.blt a b = Nat.ble (a + 1) b from rfl, this] at h; cases h
    simp [this]

theorem overF_eq {γ : Type} (a n : Nat) (f g : Nat → γ) (x : Nat) : overF a n f g x = if x < a then f x else if x < a + n then g (x - a) else f x := by
  unfold overF
  rw [blt_eq, blt_eq]
  by_cases h1 : x < a <;> by_cases h2 : x < a + n <;> simp [h1, h2]

theorem overQ_ok {a n : Nat} {q0 q1 q' : Sq} (e : overQ a n q0 q1 = some q') : q'.sz = q0.sz ∧ q1.sz = q0.sz ∧ ∀ j, q'.el j = if j < a then q0.el j else if j < a + n then q1.el (j - a) else q0.el j := by
  cases q0 <;> cases q1 <;> simp only [overQ] at e
  · split at e
    · rename_i hk; cases e; subst hk
      refine ⟨rfl, rfl, fun j => ?_⟩
      simp only [Sq.el, overF_eq]
      split
      · rfl
      · split <;> rfl
    · cases e
  · cases e
  · cases e
  · split at e
    · rename_i hk; have hk := Nat.eq_of_beq_eq_true hk; cases e; subst hk
      exact ⟨rfl, rfl, fun j => by simp only [Sq.el, overF_eq]⟩
    · cases e

theorem overQ_vals {a n N : Nat} {q0 q1 q' : Sq} (e : overQ a n q0 q1 = some q') (h0 : q0.ok N) (h1 : q1.ok n) (hN : a + n ≤ N) :
    q'.ok N ∧ q'.vals N = (q0.vals N).take (a * q0.sz) ++ q1.vals n ++ (q0.vals N).drop ((a + n) * q0.sz) := by
  obtain ⟨s1, s2, he⟩ := overQ_ok e
  refine ⟨fun j hj => ?_, ?_⟩
  · rw [he, s1]
    split
    · exact h0 j hj
    · split
      · rw [← s2]; exact h1 (j - a) (by omega)
      · exact h0 j hj
  · obtain ⟨r, rfl⟩ : ∃ r, N = a + n + r := ⟨N - (a + n), by omega⟩
    have hA : ((List.range a).flatMap q0.el).length = a * q0.sz := flatMap_length fun j hj => (h0 j (by omega)).1
    have hB : ((List.range n).flatMap fun j => q0.el (a + j)).length = n * q0.sz := flatMap_length fun j hj => (h0 (a + j) (by omega)).1
    have e0 : q0.vals (a + n + r) = (List.range a).flatMap q0.el ++ ((List.range n).flatMap fun j => q0.el (a + j)) ++ (List.range r).flatMap fun j => q0.el (a + n + j) := by
      unfold Sq.vals; rw [range_add_flat, range_add_flat]
    have e1 : q'.vals (a + n + r) = (List.range a).flatMap q0.el ++ q1.vals n ++ (List.range r).flatMap fun j => q0.el (a + n + j) := by
      unfold Sq.vals; rw [range_add_flat, range_add_flat]
      congr 1
      · congr 1
        · exact flat_congr fun j hj => by rw [he, if_pos hj]
        · exact flat_congr fun j hj => by rw [he, if_neg (by omega), if_pos (by omega)]; congr 1; omega
      · exact flat_congr fun j hj => by rw [he, if_neg (by omega), if_neg (by omega)]
    rw [e1, e0]
    congr 1
    · congr 1
      rw [List.append_assoc, List.take_append_of_le_length (by omega), List.take_of_length_le (by omega)]
    · rw [List.drop_append_of_le_length (by simp [hA, hB, Nat.add_mul]), List.drop_of_length_le (by simp [hA, hB, Nat.add_mul]), List.nil_append]

/-- the run at a static place -/
theorem seqAt_ok {α : Nat → Loc} {segs : List Seg} {off sz n : Nat} {q : Sq} {vs : List Value} (e : seqAt segs off sz = some (n, q)) (hv : SegsV α segs vs) :
    q.sz = sz ∧ q.ok n ∧ arrLen segs off = some n ∧ segAt segs off = some (q.seg n) ∧ ∃ rest, vs.drop off = q.vals n ++ rest := by
  unfold seqAt at e
  split at e
  · rename_i m k f hs
    split at e
    · rename_i h1
      cases e
      obtain ⟨a, b, h2, h3, h4⟩ := segAt_ok hs hv
      obtain ⟨rfl, h5⟩ := Sq.of_segsV (q := .ri k f) h2
      exact ⟨(Nat.eq_of_beq_eq_true h1).symm, h5, by simp [arrLen, hs], hs, b, h4⟩
    · cases e
  · rename_i m sz' f hs
    split at e
    · rename_i h1
      have h1 := Nat.eq_of_beq_eq_true h1
      cases e
      subst h1
      obtain ⟨a, b, h2, h3, h4⟩ := segAt_ok hs hv
      obtain ⟨rfl, h5⟩ := Sq.of_segsV (q := .r sz f) h2
      exact ⟨rfl, h5, by simp [arrLen, hs], hs, b, h4⟩
    · cases e
  · cases e

theorem seqAt_live {segs : List Seg} {off sz : Nat} {q : Nat × Sq} (e : seqAt segs off sz = some q) : segs ≠ [] := by
  rintro rfl; simp [seqAt, segAt] at e

theorem rowsOf_ok {sz n : Nat} {vs : List Value} (hl : vs.length = n * sz) (h1 : ∀ u ∈ vs, u.oneCell' = true) : (Sq.r sz (rowsOf sz vs)).ok n ∧ (Sq.r sz (rowsOf sz vs)).vals n = vs := by
  refine ⟨fun j hj => ⟨?_, fun u hu => h1 u (List.mem_of_mem_drop (List.mem_of_mem_take hu))⟩, ?_⟩
  · show (rowsOf sz vs j).length = sz
    unfold rowsOf
    have : (j + 1) * sz ≤ n * sz := Nat.mul_le_mul_right _ hj
    rw [Nat.succ_mul] at this
    simp; omega
  · unfold Sq.vals
    show (List.range n).flatMap (rowsOf sz vs) = vs
    have key : ∀ m, m ≤ n → (List.range m).flatMap (rowsOf sz vs) = vs.take (m * sz) := by
      intro m
      induction m with
      | zero => simp
      | succ m ih =>
        intro hm
        rw [List.range_succ, List.flatMap_append, ih (by omega)]
        simp only [List.flatMap_cons, List.flatMap_nil, List.append_nil, rowsOf]
        rw [Nat.succ_mul, List.take_add]
    rw [key n (Nat.le_refl _), ← hl, List.take_length]

theorem cellsSeq_ok {α : Nat → Loc} {segs : List Seg} {o sz len : Nat} {q : Sq} {vs : List Value} (e : cellsSeq segs o sz len = some q) (hv : SegsV α segs vs) :
    q.sz = sz ∧ q.ok len ∧ ∃ rest, vs.drop o = q.vals len ++ rest := by
  unfold cellsSeq at e
  split at e
  · rename_i l hl
    split at e
    · rename_i r hr
      split at e
      · rename_i us hu
        cases e
        have h1 := dropS_ok hl hv
        obtain ⟨h2, h3⟩ := takeS_ok hr h1
        have h4 := valsOf_ok hu h2
        have h5 : us.length = len * sz := by rw [h4]; have := h2.len; rw [h3] at this; exact this
        obtain ⟨k1, k2⟩ := rowsOf_ok h5 (by rw [h4]; exact h2.one)
        refine ⟨rfl, k1, (vs.drop o).drop (len * sz), ?_⟩
        rw [k2, h4, List.take_append_drop]
      · cases e
    · cases e
  · cases e
end Ev

namespace Ev
open Go

theorem cell_heap {w w' : World} (h : w'.heap = w.heap) (a : Addr) : w'.cell? a = w.cell? a := by unfold World.cell?; rw [h]

/-- a slice or a string as a list of cells -/
structure Src (P : Program) (sz n : Nat) (q : Sq) (v : Value) (w : World) : Prop where
  len : ∀ w' : World, (Builtin.lenOf v).run P w' = .ok n w'
  cells : ∀ w' : World, w'.heap = w.heap → (Builtin.firstCells sz n v).run P w' = .ok (q.vals n).toArray w'
  ok : q.ok n
  sz : q.sz = sz

theorem src_nil {P : Program} {sz : Nat} {q : Sq} {w : World} (hq : q.sz = sz) : Src P sz 0 q (.slice none 0 0) w :=
  ⟨fun w' => by simp [Builtin.lenOf], fun w' _ => by rw [run_firstCells_none]; rfl, fun j hj => by omega, hq⟩

theorem src_some {P : Program} {sz n cap : Nat} {q : Sq} {w : World} {ad : Addr} (hok : q.ok n) (hsz : q.sz = sz) (hc : ∀ j v, (q.vals n)[j]? = some v → w.cell? (ad.add j) = some v) : Src P sz n q (.slice (some ad) n cap) w :=
  ⟨fun w' => by simp [Builtin.lenOf], fun w' hw => run_firstCells_some w' sz n ad n cap (q.vals n) (by rw [Sq.vals_len hok, hsz]) fun j v hj => by rw [cell_heap hw]; exact hc j v hj, hok, hsz⟩

theorem bytes_vals (s : ByteArray) : s.data.map (fun b => Value.int .u8 b.toNat) = ((Sq.ri .u8 (byteAt s)).vals s.size).toArray := by
  rw [Sq.vals_ri]
  apply Array.ext
  · simp
  · intro i h1 h2
    simp at h1 h2
    have h3 : i < s.size := h1
    simp only [Array.getElem_map, List.getElem_toArray, List.getElem_map, List.getElem_range]
    have : s[i]? = some s.data[i] := by
      show (if h : i < s.size then some s[i] else none) = _
      rw [dif_pos h3]; rfl
    simp [byteAt, this]

theorem src_string {P : Program} {s : ByteArray} {w : World} : Src P 1 s.size (.ri .u8 (byteAt s)) (.string s) w where
  len := fun w' => by simp [Builtin.lenOf]
  cells := fun w' _ => by
    simp only [Builtin.firstCells, Sem.run_pure]
    rw [← bytes_vals]
    congr 2
    rw [ByteArray.data_extract]
    exact Array.extract_size
  ok := Sq.ok_ri
  sz := rfl

theorem elemsK_inv {β : Type} {P : Program} {h : Heap} {sz : Nat} {x : AC} {K : Nat → Sq → Option β} {r : β} (e : elemsK h sz x K = some r) :
    ∃ n q, K n q = some r ∧ ∀ α w v, acWF h x → ACV α x v → Sat α h w → Src P sz n q v w := by
  unfold elemsK at e
  split at e
  · rename_i i sz' st len
    obtain ⟨hs, e'⟩ := ifK_inv e
    replace e := e'
    clear e'
    have hs := Nat.eq_of_beq_eq_true hs
    subst hs
    obtain ⟨b, hb, e⟩ := getK_inv e
    obtain ⟨⟨n0, q⟩, hq, e⟩ := optK_inv e
    refine ⟨_, _, e, fun α w v hw hv s => ?_⟩
    obtain ⟨⟨b', hb', _, hn⟩, _⟩ := hw
    rw [hb] at hb'; cases hb'
    cases hv; rename_i hv
    cases hv with
    | gsNil _ _ _ hr =>
      have h0 := (s.blk i b hb).nl hr
      obtain ⟨g1, _⟩ := seqAt_ok hq h0
      exact src_nil ((Sq.sft_sz _ _).trans g1)
    | gs _ _ _ _ ad hr hc hsp had =>
      obtain ⟨c, t, fz, vs, k1, k2, k3, k4, k5⟩ := (s.blk i b hb).ex hr
      obtain ⟨g1, g2, g3, _, rest, g4⟩ := seqAt_ok hq k2
      have hl := hn n0 g3
      obtain ⟨a, b2, g5, g6⟩ := Sq.vals_split g2 hl
      refine src_some (Sq.sft_ok g2 hl) ((Sq.sft_sz _ _).trans g1) fun j u hj => ?_
      have hpos : 0 < len := by
        rcases Nat.eq_zero_or_pos len with h0 | h0
        · subst h0; simp [Sq.vals] at hj
        · exact h0
      rcases had with had | had
      · omega
      · subst had
        rw [addr_add]
        have hvj : vs[st * sz + j]? = some u := by
          rw [List.drop_zero] at g4
          rw [g4, g5, ← g1, ← g6, List.append_assoc, List.append_assoc, List.getElem?_append_right (by omega)]
          rw [show a.length + j - a.length = j by omega, List.getElem?_append_left (lt_of_get hj)]
          exact hj
        have := k3 _ _ hvj
        simp only [World.cell?, k1]
        simpa [Nat.add_assoc] using this
  · rename_i i off sz' st len cap
    obtain ⟨hs, e'⟩ := ifK_inv e
    replace e := e'
    clear e'
    have hs := Nat.eq_of_beq_eq_true hs
    subst hs
    obtain ⟨b, hb, e⟩ := getK_inv e
    split at e
    · rename_i q0 hq
      obtain ⟨n0, q⟩ := q0
      refine ⟨_, _, e, fun α w v hw hv s => ?_⟩
      obtain ⟨⟨b', hb', hn⟩, _⟩ := hw
      rw [hb] at hb'; cases hb'
      cases hv; rename_i hv
      cases hv with
      | sl _ _ _ _ _ _ ad hlc hsp had =>
        cases hr : (α i).real with
        | false =>
          have h0 := (s.blk i b hb).nl hr
          obtain ⟨g1, g2, g3, _, rest, g4⟩ := seqAt_ok hq h0
          have hl := hn n0 g3
          obtain ⟨a, b2, g5, g6⟩ := Sq.vals_split g2 hl
          refine src_some (Sq.sft_ok g2 hl) ((Sq.sft_sz _ _).trans g1) fun j u hj => ?_
          have hnil : q.vals n0 = [] := by
            have : ([] : List Value) = q.vals n0 ++ rest := by simpa using g4
            simp at this; exact this.1
          rw [hnil] at g5
          simp at g5
          rw [g5.2.1] at hj; simp at hj
        | true =>
          obtain ⟨c, t, fz, vs, k1, k2, k3, k4, k5⟩ := (s.blk i b hb).ex hr
          obtain ⟨g1, g2, g3, _, rest, g4⟩ := seqAt_ok hq k2
          have hl := hn n0 g3
          obtain ⟨a, b2, g5, g6⟩ := Sq.vals_split g2 hl
          refine src_some (Sq.sft_ok g2 hl) ((Sq.sft_sz _ _).trans g1) fun j u hj => ?_
          have hpos : 0 < len := by
            rcases Nat.eq_zero_or_pos len with h0 | h0
            · subst h0; simp [Sq.vals] at hj
            · exact h0
          rcases had with had | had
          · omega
          · subst had
            rw [addr_add]
            have hvj : (vs.drop off)[st * sz + j]? = some u := by
              rw [g4, g5, ← g1, ← g6, List.append_assoc, List.append_assoc, List.getElem?_append_right (by omega)]
              rw [show a.length + j - a.length = j by omega, List.getElem?_append_left (lt_of_get hj)]
              exact hj
            rw [List.getElem?_drop] at hvj
            have := k3 _ _ hvj
            simp only [World.cell?, k1]
            simpa [Nat.add_assoc] using this
    · obtain ⟨q, hq, e⟩ := optK_inv e
      refine ⟨_, _, e, fun α w v hw hv s => ?_⟩
      cases hv; rename_i hv
      cases hv with
      | sl _ _ _ _ _ _ ad hlc hsp had =>
        cases hr : (α i).real with
        | false =>
          have h0 := (s.blk i b hb).nl hr
          obtain ⟨g1, g2, rest, g4⟩ := cellsSeq_ok hq h0
          refine src_some g2 g1 fun j u hj => ?_
          have hnil : q.vals len = [] := by
            have : ([] : List Value) = q.vals len ++ rest := by simpa using g4
            simp at this; exact this.1
          rw [hnil] at hj; simp at hj
        | true =>
          obtain ⟨c, t, fz, vs, k1, k2, k3, k4, k5⟩ := (s.blk i b hb).ex hr
          obtain ⟨g1, g2, rest, g4⟩ := cellsSeq_ok hq k2
          refine src_some g2 g1 fun j u hj => ?_
          have hpos : 0 < len := by
            rcases Nat.eq_zero_or_pos len with h0 | h0
            · subst h0; simp [Sq.vals] at hj
            · exact h0
          rcases had with had | had
          · omega
          · subst had
            rw [addr_add]
            have hvj : (vs.drop (off + st * sz))[j]? = some u := by
              rw [g4, List.getElem?_append_left (lt_of_get hj)]; exact hj
            rw [List.getElem?_drop] at hvj
            have := k3 _ _ hvj
            simp only [World.cell?, k1]
            simpa [Nat.add_assoc] using this
  · rename_i s
    obtain ⟨hs, e'⟩ := ifK_inv e
    replace e := e'
    clear e'
    have hs := Nat.eq_of_beq_eq_true hs
    subst hs
    refine ⟨_, _, e, fun α w v _ hv _ => ?_⟩
    cases hv; rename_i hv; cases hv
    exact src_string
  · cases e
end Ev

namespace Ev
open Go

theorem Sat.heap {α : Nat → Loc} {h : Heap} {w w' : World} (s : Sat α h w) (he : w'.heap = w.heap) : Sat α h w' :=
  ⟨fun i b hb => ⟨fun hr => by
    obtain ⟨c, t, fz, vs, k1, k2⟩ := (s.blk i b hb).ex hr
    exact ⟨c, t, fz, vs, by rw [he]; exact k1, k2⟩, (s.blk i b hb).nl⟩, s.sep⟩

theorem Stp.drew {α α' : Nat → Loc} {h h' : Heap} {w w' : World} (s : Stp α h w.drew α' h' w') : Stp α h w α' h' w' :=
  ⟨s.os, s.tape, s.output, s.size, s.cells, s.frame, s.al, s.shape, s.newb, s.fixd⟩

/-- a block whose cells are known no longer -/
theorem kill_step {α : Nat → Loc} {h : Heap} {w : World} (s : Sat α h w) {i : Nat} {b : Blk} (hb : h[i]? = some b) (hmu : b.mu = true) :
    Sat α (h.set i { b with segs := [] }) w ∧ Stp α h w α (h.set i { b with segs := [] }) w := by
  have hlen := lt_of_get hb
  have hget : ∀ j bj, (h.set i { b with segs := [] })[j]? = some bj → (j = i ∧ bj = { b with segs := [] }) ∨ (j ≠ i ∧ h[j]? = some bj) := fun j bj hj => by
    rw [List.getElem?_set] at hj
    split at hj
    · rename_i hij; subst hij; simp at hj; exact .inl ⟨rfl, hj.symm⟩
    · rename_i hij; exact .inr ⟨fun h => hij h.symm, hj⟩
  refine ⟨⟨fun j bj hj => ?_, fun j k bj bk hj hm hr hl hk hkr hkl he => ?_⟩, ⟨rfl, rfl, rfl, Nat.le_refl _, fun _ c _ _ hk => ⟨c, hk, rfl⟩, fun _ _ _ => rfl, fun _ _ => rfl, fun j bj hj => ?_, fun j bj hj hm hr hl => ?_, fun j bj hj hm _ => ?_⟩⟩
  · rcases hget j bj hj with ⟨rfl, rfl⟩ | ⟨_, h0⟩
    · refine ⟨fun hr => ?_, fun _ => .nil⟩
      obtain ⟨c, t, fz, vs, k1, k2, k3, k4, k5⟩ := (s.blk j b hb).ex hr
      exact ⟨c, t, fz, [], k1, .nil, fun j v hv => by simp at hv, k4, k5⟩
    · exact s.blk j bj h0
  · rcases hget j bj hj with ⟨rfl, rfl⟩ | ⟨_, h0⟩
    · exact absurd rfl hl
    · rcases hget k bk hk with ⟨rfl, rfl⟩ | ⟨_, h1⟩
      · exact absurd rfl hkl
      · exact s.sep j k bj bk h0 hm hr hl h1 hkr hkl he
  · by_cases hij : i = j
    · subst hij; rw [hb] at hj; cases hj
      exact ⟨{ b with segs := [] }, by simp [hlen], rfl, rfl, fun _ _ hx => by simp [arrLen, segAt] at hx, fun hl => absurd rfl hl⟩
    · exact ⟨bj, by rw [List.getElem?_set_ne hij]; exact hj, rfl, rfl, .refl _, id⟩
  · rcases hget j bj hj with ⟨rfl, rfl⟩ | ⟨_, h0⟩
    · exact absurd rfl hl
    · exact .inr ⟨j, bj, h0, hm, hr, hl, rfl⟩
  · have : i ≠ j := fun e => by subst e; rw [hb] at hj; cases hj; rw [hmu] at hm; cases hm
    rw [List.getElem?_set_ne this]; exact hj

theorem heapWF_kill {h : Heap} {i : Nat} {b : Blk} (hb : h[i]? = some b) (hw : heapWF h) : heapWF (h.set i { b with segs := [] }) :=
  heapWF_set hb hw trivial fun _ _ hx => by simp [arrLen, segAt] at hx

/-- the object of a block that died goes on as another's -/
theorem share_step {α : Nat → Loc} {h : Heap} {w : World} (s : Sat α h w) (hw : heapWF h) {i : Nat} {b : Blk} (hb : h[i]? = some b) (hm : b.mu = true) (hr : (α i).real = true) (hlv : b.live)
    {c c' : Array Value} {t : TypeId} {fz : Nat × Nat} (hc : w.heap[(α i).b]? = some (.cells c t fz)) (hcs : c'.size = c.size) {q : Sq} {n o cap esz : Nat} (hq : q.ok n)
    (hcell : ∀ j v, (q.vals n)[j]? = some v → c'[o + j]? = some v) (hcap : o + cap * esz ≤ c.size) :
    Stp α h w (newLoc α h.length ⟨(α i).b, o, cap, true⟩) (h.set i { b with segs := [] } ++ [⟨true, esz, [q.seg n]⟩]) (w.setRow (α i).b c') ∧
      Sat (newLoc α h.length ⟨(α i).b, o, cap, true⟩) (h.set i { b with segs := [] } ++ [⟨true, esz, [q.seg n]⟩]) (w.setRow (α i).b c') := by
  obtain ⟨s1, t1⟩ := kill_step s hb hm
  have hw1 := heapWF_kill hb hw
  have hlen := lt_of_get hb
  have hln : (h.set i { b with segs := [] }).length = h.length := by simp
  have hα : ∀ j, j < h.length → newLoc α h.length ⟨(α i).b, o, cap, true⟩ j = α j := fun j hj => newLoc_old hj
  have hfz : ∀ o', o' < c.size → ¬ (fz.1 ≤ o' ∧ o' < fz.2) := by
    obtain ⟨c2, t2, fz2, vs2, k1, k2, k3, k4, k5⟩ := (s.blk i b hb).ex hr
    rw [hc] at k1; cases k1
    exact k4 hm
  have hget : ∀ j bj, (h.set i { b with segs := [] } ++ [(⟨true, esz, [q.seg n]⟩ : Blk)])[j]? = some bj → (j < h.length ∧ (h.set i { b with segs := [] })[j]? = some bj) ∨ (j = h.length ∧ bj = ⟨true, esz, [q.seg n]⟩) := fun j bj hj => by
    rcases snoc_get hj with ⟨h1, h2⟩ | ⟨h1, h2⟩
    · exact .inl ⟨by rw [← hln]; exact h1, h2⟩
    · exact .inr ⟨by rw [← hln]; exact h1, h2⟩
  -- a live block other than i does not lie in i's object
  have hoth : ∀ j bj, (h.set i { b with segs := [] })[j]? = some bj → (α j).real = true → bj.live → (α j).b ≠ (α i).b := fun j bj hj hjr hjl he => by
    rw [List.getElem?_set] at hj
    split at hj
    · rename_i hij; subst hij; simp at hj; subst hj; exact hjl rfl
    · rename_i hij; exact hij (s.sep i j b bj hb hm hr hlv hj hjr hjl he.symm)
  refine ⟨⟨rfl, rfl, rfl, by simp, fun k c0 t0 fz0 hk => setRow_cells hc hcs hk, fun k hk hn => ?_, fun j hj => hα j hj, fun j bj hj => ?_, fun j bj hj hjm hjr hjl => ?_, fun j bj hj hjm hjp => snoc_old j bj (t1.fixd j bj hj hjm hjp)⟩, ⟨fun j bj hj => ?_, fun j k bj bk hj hjm hjr hjl hk hkr hkl he => ?_⟩⟩
  · exact setRow_other _ _ _ _ fun he => hn i b hb hm hr hlv he.symm
  · obtain ⟨b', h1, h2⟩ := t1.shape j bj hj
    exact ⟨b', snoc_old j b' h1, h2⟩
  · rcases hget j bj hj with ⟨hjlt, h0⟩ | ⟨rfl, rfl⟩
    · rw [hα j hjlt] at hjr ⊢
      rcases t1.newb j bj h0 hjm hjr hjl with h1 | h1
      · exact .inl h1
      · exact .inr h1
    · rw [newLoc_new]; exact .inr ⟨i, b, hb, hm, hr, hlv, rfl⟩
  · rcases hget j bj hj with ⟨hjlt, h0⟩ | ⟨rfl, rfl⟩
    · have kj := s1.blk j bj h0
      refine ⟨fun hjr => ?_, fun hjr => ?_⟩
      · rw [hα j hjlt] at hjr ⊢
        obtain ⟨c2, t2, fz2, vs2, k1, k2, k3, k4, k5⟩ := kj.ex hjr
        have k2' := k2.agree (α' := newLoc α h.length ⟨(α i).b, o, cap, true⟩) (fun m hm' => hα m (by rw [← hln]; exact hm')) (hw1 j bj h0)
        by_cases hjl : bj.live
        · exact ⟨c2, t2, fz2, vs2, by rw [setRow_other _ _ _ _ (hoth j bj h0 hjr hjl)]; exact k1, k2', k3, k4, k5⟩
        · have hbs : bj.segs = [] := Decidable.not_not.1 hjl
          by_cases he : (α j).b = (α i).b
          · rw [he, hc] at k1; cases k1
            refine ⟨c', t, fz, [], by rw [he]; exact setRow_heap w _ c _ t _ hc, by rw [hbs]; exact .nil, fun j v hv => by simp at hv, fun hm' o' ho' => k4 hm' o' (by omega), by omega⟩
          · exact ⟨c2, t2, fz2, vs2, by rw [setRow_other _ _ _ _ he]; exact k1, k2', k3, k4, k5⟩
      · rw [hα j hjlt] at hjr
        exact (kj.nl hjr).agree (fun m hm' => hα m (by rw [← hln]; exact hm')) (hw1 j bj h0)
    · refine ⟨fun _ => ⟨c', t, fz, q.vals n, ?_, Sq.segsV1 hq, ?_, fun _ o' ho' => hfz o' (by omega), ?_⟩, fun hjr => by rw [newLoc_new] at hjr; cases hjr⟩
      · rw [newLoc_new]; exact setRow_heap w _ c _ t _ hc
      · rw [newLoc_new]; exact hcell
      · rw [newLoc_new]; show o + cap * esz ≤ c'.size; omega
  · rcases hget j bj hj with ⟨hjlt, h0⟩ | ⟨rfl, rfl⟩ <;> rcases hget k bk hk with ⟨hklt, h1⟩ | ⟨rfl, rfl⟩
    · rw [hα j hjlt] at hjr he; rw [hα k hklt] at hkr he
      exact s1.sep j k bj bk h0 hjm hjr hjl h1 hkr hkl he
    · rw [hα j hjlt] at hjr he; rw [newLoc_new] at he
      exact absurd he (hoth j bj h0 hjr hjl)
    · rw [hα k hklt] at hkr he; rw [newLoc_new] at he
      exact absurd he.symm (hoth k bk h1 hkr hkl)
    · rfl

/-- a slice that there isn't -/
theorem nil_step {α : Nat → Loc} {h : Heap} {w : World} (s : Sat α h w) (hw : heapWF h) {q : Sq} {esz : Nat} :
    Stp α h w (newLoc α h.length ⟨0, 0, 0, false⟩) (h ++ [⟨true, esz, [q.seg 0]⟩]) w ∧ Sat (newLoc α h.length ⟨0, 0, 0, false⟩) (h ++ [⟨true, esz, [q.seg 0]⟩]) w := by
  have hα : ∀ j, j < h.length → newLoc α h.length ⟨0, 0, 0, false⟩ j = α j := fun j hj => newLoc_old hj
  refine ⟨⟨rfl, rfl, rfl, Nat.le_refl _, fun _ c _ _ hk => ⟨c, hk, rfl⟩, fun _ _ _ => rfl, fun j hj => hα j hj, fun j bj hj => ⟨bj, snoc_old j bj hj, rfl, rfl, .refl _, id⟩, fun j bj hj hm hr hl => ?_, fun j bj hj _ _ => snoc_old j bj hj⟩, ⟨fun j bj hj => ?_, fun j k bj bk hj hm hr hl hk hkr hkl he => ?_⟩⟩
  · rcases snoc_get hj with ⟨hjl, h0⟩ | ⟨rfl, rfl⟩
    · rw [hα j hjl] at hr ⊢; exact .inr ⟨j, bj, h0, hm, hr, hl, rfl⟩
    · rw [newLoc_new] at hr; cases hr
  · rcases snoc_get hj with ⟨hjl, h0⟩ | ⟨rfl, rfl⟩
    · have kj := s.blk j bj h0
      refine ⟨fun hr => ?_, fun hr => ?_⟩
      · rw [hα j hjl] at hr ⊢
        obtain ⟨c2, t2, fz2, vs2, k1, k2, k3⟩ := kj.ex hr
        exact ⟨c2, t2, fz2, vs2, k1, k2.agree hα (hw j bj h0), k3⟩
      · rw [hα j hjl] at hr; exact (kj.nl hr).agree hα (hw j bj h0)
    · refine ⟨fun hr => (by rw [newLoc_new] at hr; cases hr), fun _ => ?_⟩
      have : SegsV (newLoc α h.length ⟨0, 0, 0, false⟩) [q.seg 0] (q.vals 0) := Sq.segsV1 fun j hj => by omega
      simpa [Sq.vals] using this
  · rcases snoc_get hj with ⟨hjl, h0⟩ | ⟨rfl, rfl⟩
    · rcases snoc_get hk with ⟨hkl', h1⟩ | ⟨rfl, rfl⟩
      · rw [hα j hjl] at hr he; rw [hα k hkl'] at hkr he
        exact s.sep j k bj bk h0 hm hr hl h1 hkr hkl he
      · rw [newLoc_new] at hkr; cases hkr
    · rw [newLoc_new] at hr; cases hr
end Ev

namespace Ev
open Go

/-- the second argument's type is a slice's or a string's -/
def notInt (d : TypeDesc) : Prop := d = .string ∨ ∃ x, d = .slice x

section
variable {P : Program} {argTypes : Array TypeId} {ty t0 t1 e : TypeId} {d : TypeDesc} {ei : TypeInfo} {z : Value} {n : Nat} {q : Sq} {v2 : Value} {w : World} {sLen sCap : Nat}
  (h0 : argTypes[0]? = some t0) (h1 : argTypes[1]? = some t1) (ht0 : P.underlying t0 = some (.slice e)) (ht1 : P.underlying t1 = some d) (hd : notInt d) (hi : P.info? e = some ei) (hz : ei.zero = some z) (hs : Src P ei.size n q v2 w)
include h0 h1 ht0 ht1 hd hi hs

theorem run_append_in {a : Addr} {w' : World} (hfit : sLen + n ≤ sCap) (hst : (storeCells (a.add (sLen * ei.size)) (q.vals n)).run P w = .ok () w') :
    (Builtin.append_ argTypes ty #[.slice (some a) sLen sCap, v2]).run P w = .ok (.slice (some a) (sLen + n) sCap) w' := by
  have hl := hs.len
  have hc := hs.cells w rfl
  rcases hd with rfl | ⟨x, rfl⟩ <;> (simp [Builtin.append_, h0, h1, run_underlying ht0, run_underlying ht1, Go.sizeOf, typeInfo, hi, hl, hfit, hc, hst])

theorem run_append_in0 (hfit : sLen + n ≤ sCap) :
    (Builtin.append_ argTypes ty #[.slice none sLen sCap, v2]).run P w = .ok (.slice none (sLen + n) sCap) w := by
  have hl := hs.len
  have hc := hs.cells w rfl
  rcases hd with rfl | ⟨x, rfl⟩ <;> (simp [Builtin.append_, h0, h1, run_underlying ht0, run_underlying ht1, Go.sizeOf, typeInfo, hi, hl, hfit, hc])

include hz in
theorem run_append_out {base : Option Addr} {olds : List Value} (hg : sCap < sLen + n) (hroom : roomB (sLen + n) ei.bytes = true) (hb : ei.bytes ≠ 0)
    (ho : ∀ w' : World, w'.heap = w.heap → (Builtin.firstCells ei.size sLen (.slice base sLen sCap)).run P w' = .ok olds.toArray w') :
    (Builtin.append_ argTypes ty #[.slice base sLen sCap, v2]).run P w =
      .ok (.slice (some ⟨w.heap.size, 0, none⟩) (sLen + n) (grownCap w (sLen + n) sCap e)) (w.drew.alloc (.cells (olds.toArray ++ (q.vals n).toArray ++ Builtin.zeroCells z.cells (grownCap w (sLen + n) sCap e - (sLen + n))) e)) := by
  have hl := hs.len
  have hroom := Nat.le_of_ble_eq_true hroom
  have hn : ¬ (sLen + n ≤ sCap) := by omega
  have h48 := growslice_fits (bytes := ei.bytes) hg hroom
  have h48' : ¬ (281474976710656 < Builtin.nextslicecap (sLen + n) sCap * ei.bytes) := by omega
  have hc := hs.cells w.drew rfl
  have ho' := ho w.drew rfl
  rcases hd with rfl | ⟨x, rfl⟩ <;> (simp [Builtin.append_, h0, h1, run_underlying ht0, run_underlying ht1, Go.sizeOf, typeInfo, zeroValue, hi, hz, hl, hn, hb, h48', Question.forced, hc, ho', newRow, grownCap]; congr 2; apply Array.ext'; simp [List.append_assoc])
end
end Ev

namespace Ev
open Go

/-- a part of an operation: what it hands on, and what its run does -/
structure Prim (P : Program) (h : Heap) (y : AV) (h' : Heap) (ws : List Nat) (l : Bool) (Pre : (Nat → Loc) → World → Sem Value → Prop) : Prop where
  wr : ∀ i, i ∉ ws → i < h.length → h'[i]? = h[i]?
  quiet : l = false → h' = h
  len : h.length ≤ h'.length
  run : ∀ α w s, heapWF h → Sat α h w → Pre α w s → ∃ α' w' v, s.run P w = .ok v w' ∧ Stp α h w α' h' w' ∧ Sat α' h' w' ∧ AVV α' y v ∧ avWF h' y ∧ heapWF h'

theorem Prim.still {P : Program} {h : Heap} {y : AC} {Pre : (Nat → Loc) → World → Sem Value → Prop}
    (k : ∀ α w s, heapWF h → Sat α h w → Pre α w s → ∃ v, s.run P w = .ok v w ∧ ACV α y v ∧ acWF h y) : Prim P h (.ac y) h [] false Pre :=
  ⟨fun _ _ _ => rfl, fun _ => rfl, Nat.le_refl _, fun α w s hw hs hp => let ⟨v, h1, h2, h3⟩ := k α w s hw hs hp; ⟨α, w, v, h1, .refl _ _ _, hs, .ac h2, h3, hw⟩⟩

theorem gsWF_new {h : Heap} {sz m : Nat} {q : Sq} : acWF (h ++ [⟨true, sz, [q.seg m]⟩]) (.one (.gs h.length sz 0 m)) := by
  refine ⟨⟨⟨true, sz, [q.seg m]⟩, by simp, rfl, fun n hn => ?_⟩, trivial⟩
  rw [Sq.arrLen_seg] at hn; cases hn; omega

theorem segWF (h : Heap) (q : Sq) (n : Nat) : segsWF h [q.seg n] := by cases q <;> exact trivial

/-- a new slice in a new object -/
theorem gs_new {α : Nat → Loc} {h : Heap} {w : World} (s : Sat α h w) (hw : heapWF h) {q : Sq} {sz m cap : Nat} {c : Array Value} {e : TypeId} {fz : Nat × Nat} (hq : q.ok m) (hc : ∀ (j : Nat) (v : Value), (q.vals m)[j]? = some v → c[j]? = some v)
    (hcap : cap * sz ≤ c.size) (hm : m ≤ cap) (hfz : ∀ o, o < c.size → ¬ (fz.1 ≤ o ∧ o < fz.2)) :
    ∃ α', Stp α h w α' (h ++ [⟨true, sz, [q.seg m]⟩]) (w.alloc (.cells c e fz)) ∧ Sat α' (h ++ [⟨true, sz, [q.seg m]⟩]) (w.alloc (.cells c e fz)) ∧ ACV α' (.one (.gs h.length sz 0 m)) (.slice (some ⟨w.heap.size, 0, none⟩) m cap) := by
  obtain ⟨s1, s2⟩ := alloc_step (t := e) (esz := sz) s hw (Sq.segsV1 hq) (segWF h q m) hc hcap hfz
  refine ⟨_, s1, s2, .one ?_⟩
  have := V.gs (α := newLoc α h.length ⟨w.heap.size, 0, cap, true⟩) h.length sz 0 m ⟨w.heap.size, 0, none⟩ (by rw [newLoc_new]) (by rw [newLoc_new]; show 0 + m ≤ cap; omega) rfl (.inr (by rw [newLoc_new]; simp))
  rw [newLoc_new] at this
  exact this

theorem gs_nil {α : Nat → Loc} {h : Heap} {w : World} (s : Sat α h w) (hw : heapWF h) {q : Sq} {sz m : Nat} (hm : m = 0) :
    ∃ α', Stp α h w α' (h ++ [⟨true, sz, [q.seg m]⟩]) w ∧ Sat α' (h ++ [⟨true, sz, [q.seg m]⟩]) w ∧ ACV α' (.one (.gs h.length sz 0 m)) (.slice none 0 0) := by
  subst hm
  obtain ⟨s1, s2⟩ := nil_step (q := q) (esz := sz) s hw
  exact ⟨_, s1, s2, .one (.gsNil h.length sz 0 (by rw [newLoc_new]))⟩

theorem newGs_inv {β : Type} {h : Heap} {sz n : Nat} {q : Sq} {ws : List Nat} {K : KR β} {r : β} (e : newGs h sz n q ws K = some r) :
    K (.ac (.one (.gs h.length sz 0 n))) (h ++ [⟨true, sz, [q.seg n]⟩]) ws true = some r := by
  unfold newGs addBlk at e
  rwa [snocK_eq] at e

theorem appTy_inv {P : Program} {argTypes : Array TypeId} {ei : TypeInfo} (h : appTy P argTypes = some ei) :
    ∃ t0 t1 e d, argTypes[0]? = some t0 ∧ argTypes[1]? = some t1 ∧ P.underlying t0 = some (.slice e) ∧ P.underlying t1 = some d ∧ notInt d ∧ P.info? e = some ei := by
  unfold appTy at h
  split at h
  · rename_i s t hs ht
    split at h
    · rename_i e e' h1 h2; exact ⟨s, t, e, _, hs, ht, h1, h2, .inr ⟨_, rfl⟩, h⟩
    · rename_i e h1 h2; exact ⟨s, t, e, _, hs, ht, h1, h2, .inl rfl, h⟩
    · cases h
  · cases h

theorem isNilSl_inv {x : AC} (h : isNilSl x = true) : x = .one (.val (.slice none 0 0)) := by
  unfold isNilSl at h
  split at h
  · rfl
  · cases h

def AppPre (h : Heap) (argTypes : Array TypeId) (a x : AC) (α : Nat → Loc) (w : World) (s : Sem Value) : Prop :=
  ∃ va vx ty, acWF h a ∧ acWF h x ∧ ACV α a va ∧ ACV α x vx ∧ s = Builtin.append_ argTypes ty #[va, vx]

theorem zeroCells_size {z : Array Value} {n : Nat} : (Builtin.zeroCells z n).size = n * z.size := by simp [Builtin.zeroCells]

theorem grownCap_le {w : World} {need old : Nat} {e : TypeId} : need ≤ grownCap w need old e := by
  unfold grownCap Question.cut
  simp only
  omega

theorem zeroLen_inv {ei : TypeInfo} (h : zeroLen ei = true) : ∃ z, ei.zero = some z ∧ z.cells.size = ei.size ∧ ei.size ≠ 0 := by
  unfold zeroLen at h
  split at h
  · rename_i z hz
    split at h
    · cases h
    · rename_i h0; exact ⟨z, hz, Nat.eq_of_beq_eq_true h, fun e => h0 (by rw [e]; rfl)⟩
  · cases h

/-- the cells of a grown slice -/
theorem grown_cells {olds : List Value} {q q' : Sq} {n m sz cap : Nat} {z : Array Value} (hz : z.size = sz) (hv : q'.vals m = olds ++ q.vals n) (hq : q'.ok m) (hs : q'.sz = sz) (hm : m ≤ cap) :
    (∀ (j : Nat) (v : Value), (q'.vals m)[j]? = some v → (olds.toArray ++ (q.vals n).toArray ++ Builtin.zeroCells z (cap - m))[j]? = some v) ∧
      cap * sz ≤ (olds.toArray ++ (q.vals n).toArray ++ Builtin.zeroCells z (cap - m)).size := by
  have hl := Sq.vals_len hq
  have h1 : (olds.toArray ++ (q.vals n).toArray).size = (q'.vals m).length := by rw [hv]; simp
  refine ⟨fun j v hj => ?_, ?_⟩
  · have hjl := lt_of_get hj
    rw [Array.getElem?_append_left (by rw [h1]; exact hjl)]
    have : (olds.toArray ++ (q.vals n).toArray) = (q'.vals m).toArray := by rw [hv]; simp
    rw [this]; simpa using hj
  · rw [Array.size_append, h1, zeroCells_size, hl, hs, hz, ← Nat.add_mul, show m + (cap - m) = cap by omega]
    exact Nat.le_refl _

theorem getK_at' {γ β : Type} {l : List γ} {n : Nat} {x : γ} (h : l[n]? = some x) (K : γ → Option β) : getK l n none K = K x := by
  have key : ∀ (l : List γ) (n : Nat), getK l n none K = (match l[n]? with | some x => K x | none => none) := by
    intro l
    induction l with
    | nil => intro n; simp [getK]
    | cons x l ih =>
      intro n
      cases n with
      | zero => simp [getK]
      | succ n => simp [getK, ih n]
  rw [key, h]

theorem appendK_inv {β : Type} {P : Program} {h : Heap} {argTypes : Array TypeId} {a x : AC} {K : KR β} {r : β} (e : appendK P h argTypes a x K = some r) :
    ∃ y h' ws l, K y h' ws l = some r ∧ Prim P h y h' ws l (AppPre h argTypes a x) := by
  unfold appendK at e
  obtain ⟨ei, hei, e1⟩ := optK_inv e
  obtain ⟨hz, e2⟩ := ifK_inv e1
  obtain ⟨hbn, e3⟩ := ifK_inv e2
  clear e e1 e2
  have e := e3
  clear e3
  obtain ⟨t0, t1, te, d, h0, h1, ht0, ht1, hd, hi⟩ := appTy_inv hei
  obtain ⟨z, hz, hzl, hszne⟩ := zeroLen_inv hz
  have hbn : ei.bytes ≠ 0 := fun h0 => by rw [h0] at hbn; simp at hbn
  split at e
  · -- nothing is appended
    rename_i hnil
    have hx := isNilSl_inv hnil
    have key : ∀ α w va vx ty, acWF h a → ACV α a va → ACV α x vx → ((∃ ad n c, va = .slice (some ad) n c ∧ n ≤ c) ∨ va = .slice none 0 0) → (Builtin.append_ argTypes ty #[va, vx]).run P w = .ok va w := fun α w va vx ty _ _ hvx hva => by
      subst hx
      cases hvx; rename_i hvx; cases hvx
      have hs : Src P ei.size 0 (.r ei.size fun _ => []) (.slice none 0 0) w := src_nil rfl
      rcases hva with ⟨ad, n, c, rfl, hnc⟩ | rfl
      · have := run_append_in (ty := ty) h0 h1 ht0 ht1 hd hi hs (sLen := n) (sCap := c) (a := ad) (w' := w) (by omega) (by simp [Sq.vals, storeCells])
        simpa using this
      · have := run_append_in0 (ty := ty) h0 h1 ht0 ht1 hd hi hs (sLen := 0) (sCap := 0) (by omega)
        simpa using this
    split at e
    · refine ⟨_, _, _, _, e, .still fun α w s _ _ hp => ?_⟩
      obtain ⟨va, vx, ty, w1, w2, v1, v2, rfl⟩ := hp
      refine ⟨va, key α w va vx ty w1 v1 v2 ?_, v1, w1⟩
      cases v1; rename_i v1; cases v1; exact .inr rfl
    · refine ⟨_, _, _, _, e, .still fun α w s _ _ hp => ?_⟩
      obtain ⟨va, vx, ty, w1, w2, v1, v2, rfl⟩ := hp
      refine ⟨va, key α w va vx ty w1 v1 v2 ?_, v1, w1⟩
      cases v1; rename_i v1; cases v1
      · exact .inr rfl
      · exact .inl ⟨_, _, _, rfl, by omega⟩
    · refine ⟨_, _, _, _, e, .still fun α w s _ _ hp => ?_⟩
      obtain ⟨va, vx, ty, w1, w2, v1, v2, rfl⟩ := hp
      refine ⟨va, key α w va vx ty w1 v1 v2 ?_, v1, w1⟩
      cases v1; rename_i v1; cases v1
      exact .inl ⟨_, _, _, rfl, by assumption⟩
    · cases e
  · obtain ⟨n, q, e1, hq⟩ := elemsK_inv (P := P) e
    clear e
    have e := e1
    clear e1
    split at e
    · -- onto nil
      rcases cond_inv e with ⟨hroom, e⟩ | ⟨_, e⟩
      · have e := newGs_inv e
        refine ⟨_, _, _, _, e, ⟨fun i _ hi => (by rw [List.getElem?_append_left hi]), fun hl => (by cases hl), (by simp), fun α w s hw hs hp => ?_⟩⟩
        obtain ⟨va, vx, ty, w1, w2, v1, v2, rfl⟩ := hp
        cases v1; rename_i v1; cases v1
        have hsrc := hq α w vx w2 v2 hs
        rcases Nat.eq_zero_or_pos n with hn | hn
        · obtain ⟨α', k1, k2, k3⟩ := gs_nil (q := q) (sz := ei.size) hs hw hn
          have := run_append_in0 (ty := ty) h0 h1 ht0 ht1 hd hi hsrc (sLen := 0) (sCap := 0) (by omega)
          rw [hn] at this
          exact ⟨α', w, _, this, k1, k2, .ac k3, gsWF_new, heapWF_snoc hw (segWF h q n)⟩
        · have hrun := run_append_out (ty := ty) (z := z) h0 h1 ht0 ht1 hd hi hz hsrc (sLen := 0) (sCap := 0) (base := none) (olds := []) (by omega) (by simpa using hroom) hbn (fun w' _ => by rw [run_firstCells_none])
          have hcap : n ≤ grownCap w (0 + n) 0 te := by have := grownCap_le (w := w) (need := 0 + n) (old := 0) (e := te); omega
          obtain ⟨g1, g2⟩ := grown_cells (olds := []) (q := q) (q' := q) (n := n) (m := n) (z := z.cells) (cap := grownCap w (0 + n) 0 te) hzl (by simp) hsrc.ok hsrc.sz hcap
          rw [show 0 + n = n by omega] at hrun hcap g1 g2
          obtain ⟨α', k1, k2, k3⟩ := gs_new (w := w.drew) (e := te) (fz := (0, 0)) (sz := ei.size) (hs.heap rfl) hw hsrc.ok g1 g2 hcap (fun o _ => by simp)
          exact ⟨α', _, _, hrun, k1.drew, k2, .ac k3, gsWF_new, heapWF_snoc hw (segWF h q n)⟩
      · cases e
    · -- onto a grown one
      rename_i i sz st len
      obtain ⟨hsz, e'⟩ := ifK_inv e
      replace e := e'
      clear e'
      have hsz := Nat.eq_of_beq_eq_true hsz
      subst hsz
      obtain ⟨b, hb, e⟩ := getK_inv e
      obtain ⟨hm, e⟩ := ifK_inv e
      obtain ⟨⟨n0, q0⟩, hq0, e⟩ := optK_inv e
      obtain ⟨q', hq', e⟩ := optK_inv e
      rcases cond_inv e with ⟨hroom, e⟩ | ⟨_, e⟩
      · rw [setK_eq] at e
        have e := newGs_inv e
        have hlen := lt_of_get hb
        rw [List.length_set] at e
        refine ⟨_, _, _, _, e, ⟨fun j hj hjl => ?_, fun hl => (by cases hl), (by simp), fun α w s hw hs hp => ?_⟩⟩
        · rw [List.getElem?_append_left (by simpa using hjl), List.getElem?_set_ne (fun h => hj (by simp [h]))]
        obtain ⟨va, vx, ty, w1, w2, v1, v2, rfl⟩ := hp
        have hsrc := hq α w vx w2 v2 hs
        obtain ⟨⟨b', hb', _, hn⟩, _⟩ := w1
        rw [hb] at hb'; cases hb'
        obtain ⟨s1, t1'⟩ := kill_step hs hb hm
        have hw1 := heapWF_kill hb hw
        have hlive : b.live := seqAt_live hq0
        have hln : (h.set i { b with segs := [] }).length = h.length := by simp
        -- the new slice in a new object
        have out : ∀ (base : Option Addr) (sLen sCap : Nat) (olds : List Value), sLen = len → sCap < len + n → q'.ok (len + n) → q'.sz = ei.size → q'.vals (len + n) = olds ++ q.vals n →
            (∀ w' : World, w'.heap = w.heap → (Builtin.firstCells ei.size sLen (.slice base sLen sCap)).run P w' = .ok olds.toArray w') →
            ∃ α' w' v, (Builtin.append_ argTypes ty #[.slice base sLen sCap, vx]).run P w = .ok v w' ∧ Stp α h w α' (h.set i { b with segs := [] } ++ [⟨true, ei.size, [q'.seg (len + n)]⟩]) w' ∧ Sat α' (h.set i { b with segs := [] } ++ [⟨true, ei.size, [q'.seg (len + n)]⟩]) w' ∧
              AVV α' (.ac (.one (.gs h.length ei.size 0 (len + n)))) v ∧ avWF (h.set i { b with segs := [] } ++ [⟨true, ei.size, [q'.seg (len + n)]⟩]) (.ac (.one (.gs h.length ei.size 0 (len + n)))) ∧ heapWF (h.set i { b with segs := [] } ++ [⟨true, ei.size, [q'.seg (len + n)]⟩]) := by
          intro base sLen sCap olds hsl hgr hok hs' hvals hold
          subst hsl
          have hrun := run_append_out (ty := ty) (z := z) h0 h1 ht0 ht1 hd hi hz hsrc (sLen := sLen) (sCap := sCap) (base := base) (olds := olds) hgr hroom hbn hold
          have hcap : sLen + n ≤ grownCap w (sLen + n) sCap te := grownCap_le
          obtain ⟨g1, g2⟩ := grown_cells (olds := olds) (q := q) (q' := q') (n := n) (m := sLen + n) (z := z.cells) (cap := grownCap w (sLen + n) sCap te) hzl hvals hok hs' hcap
          obtain ⟨α', k1, k2, k3⟩ := gs_new (w := w.drew) (e := te) (fz := (0, 0)) (sz := ei.size) (s1.heap rfl) hw1 hok g1 g2 hcap (fun o _ => by simp)
          rw [hln] at k3
          refine ⟨α', _, _, hrun, t1'.trans k1.drew, k2, .ac k3, ?_, heapWF_snoc hw1 (segWF _ q' _)⟩
          have := gsWF_new (h := h.set i { b with segs := [] }) (sz := ei.size) (m := sLen + n) (q := q')
          rwa [hln] at this
        cases v1; rename_i v1
        cases v1 with
        | gsNil _ _ _ hr =>
          have hnl := (hs.blk i b hb).nl hr
          obtain ⟨g1, g2, g3, _, _⟩ := seqAt_ok hq0 hnl
          obtain ⟨k1, k2⟩ := catQ_vals hq' (q0 := q0.sft st) (q1 := q) (n := 0) (m := n) (fun j hj => by omega) hsrc.ok
          have hs' : q'.sz = ei.size := by rw [(catQ_ok hq').1, Sq.sft_sz, g1]
          rcases Nat.eq_zero_or_pos n with hn0 | hn0
          · obtain ⟨α', j1, j2, j3⟩ := gs_nil (q := q') (sz := ei.size) (m := 0 + n) s1 hw1 (by omega)
            have hrun := run_append_in0 (ty := ty) h0 h1 ht0 ht1 hd hi hsrc (sLen := 0) (sCap := 0) (by omega)
            rw [hn0] at hrun
            rw [hln] at j3
            refine ⟨α', w, _, hrun, t1'.trans j1, j2, .ac j3, ?_, heapWF_snoc hw1 (segWF _ q' _)⟩
            have := gsWF_new (h := h.set i { b with segs := [] }) (sz := ei.size) (m := 0 + n) (q := q')
            rwa [hln] at this
          · exact out none 0 0 [] rfl (by omega) k1 hs' (by rw [k2]; simp [Sq.vals]) (fun w' _ => by rw [run_firstCells_none])
        | gs _ _ _ _ ad hr hc hsp had =>
          obtain ⟨c, t, fz, vs, k1, k2, k3, k4, k5⟩ := (hs.blk i b hb).ex hr
          obtain ⟨g1, g2, g3, _, rest, g4⟩ := seqAt_ok hq0 k2
          have hl := hn n0 g3
          obtain ⟨pa, pb, g5, g6⟩ := Sq.vals_split g2 hl
          have hq0ok := Sq.sft_ok g2 hl
          obtain ⟨j1, j2⟩ := catQ_vals hq' hq0ok hsrc.ok
          have hs' : q'.sz = ei.size := by rw [(catQ_ok hq').1, Sq.sft_sz, g1]
          -- what lies there
          have hold : ∀ j u, ((q0.sft st).vals len)[j]? = some u → c[(α i).o + st * ei.size + j]? = some u := fun j u hj => by
            have hvj : vs[st * ei.size + j]? = some u := by
              rw [List.drop_zero] at g4
              rw [g4, g5, ← g1, ← g6, List.append_assoc, List.append_assoc, List.getElem?_append_right (by omega)]
              rw [show pa.length + j - pa.length = j by omega, List.getElem?_append_left (lt_of_get hj)]
              exact hj
            rw [Nat.add_assoc]; exact k3 _ _ hvj
          have hoL : ((q0.sft st).vals len).length = len * ei.size := by rw [Sq.vals_len hq0ok, Sq.sft_sz, g1]
          have hqL : (q.vals n).length = n * ei.size := by rw [Sq.vals_len hsrc.ok, hsrc.sz]
          have hez : b.esz = ei.size := by assumption
          by_cases hfit : len + n ≤ (α i).cap - st
          · -- in place
            rcases Nat.eq_zero_or_pos (len + n) with hz0 | hpos
            · -- nothing there, nothing more
              have hln0 : len = 0 := by omega
              have hn0 : n = 0 := by omega
              have hrun := run_append_in (ty := ty) h0 h1 ht0 ht1 hd hi hsrc (sLen := len) (sCap := (α i).cap - st) (a := ad) (w' := w) hfit (by subst hn0; simp [Sq.vals, storeCells])
              obtain ⟨α2, w2, k6⟩ : ∃ α2 w2, Stp α h w α2 (h.set i { b with segs := [] } ++ [⟨true, ei.size, [q'.seg (len + n)]⟩]) w2 ∧ Sat α2 (h.set i { b with segs := [] } ++ [⟨true, ei.size, [q'.seg (len + n)]⟩]) w2 ∧ w2 = w ∧ α2 = newLoc α h.length ⟨(α i).b, (α i).o + st * ei.size, (α i).cap - st, true⟩ := by
                obtain ⟨m1, m2⟩ := share_step hs hw hb hm hr hlive (c := c) (c' := c) (t := t) (fz := fz) k1 rfl (q := q') (n := len + n) (o := (α i).o + st * ei.size) (cap := (α i).cap - st) (esz := ei.size) j1 (fun j v hj => by rw [hz0] at hj; simp [Sq.vals] at hj) (by
                  have : st * ei.size + ((α i).cap - st) * ei.size = (α i).cap * ei.size := by rw [← Nat.add_mul]; congr 1; omega
                  rw [hez] at k5; omega)
                rw [setRow_self w _ c t fz k1] at m1 m2
                exact ⟨_, w, m1, m2, rfl, rfl⟩
              obtain ⟨m1, m2, rfl, rfl⟩ := k6
              refine ⟨_, _, _, hrun, m1, m2, .ac (.one ?_), ?_, heapWF_snoc hw1 (segWF _ q' _)⟩
              · have hv := V.gs (α := newLoc α h.length ⟨(α i).b, (α i).o + st * ei.size, (α i).cap - st, true⟩) h.length ei.size 0 (len + n) ad (by rw [newLoc_new]) (by rw [newLoc_new]; show 0 + (len + n) ≤ (α i).cap - st; omega) hsp (by
                  rw [newLoc_new]
                  rcases had with had | had
                  · left; show 0 = (α i).cap - st; omega
                  · right; rw [had]; simp)
                rw [newLoc_new] at hv
                exact hv
              · have := gsWF_new (h := h.set i { b with segs := [] }) (sz := ei.size) (m := len + n) (q := q')
                rwa [hln] at this
            · have had' : ad = ⟨(α i).b, (α i).o + st * ei.size, none⟩ := by
                rcases had with had | had
                · omega
                · exact had
              have hbnd : (α i).o + st * ei.size + (len * ei.size + n * ei.size) ≤ c.size := by
                have h2 : (st + (len + n)) * ei.size ≤ (α i).cap * ei.size := Nat.mul_le_mul_right _ (by omega)
                rw [Nat.add_mul, Nat.add_mul] at h2
                rw [hez] at k5; omega
              have hst := run_storeCells_nf P (α i).b ((α i).o + st * ei.size + len * ei.size) t fz (q.vals n) 0 c w k1 (fun j _ h3 => k4 hm j (by omega)) (by omega) (Sq.vals_one hsrc.ok)
              have hadd : ad.add (len * ei.size) = ⟨(α i).b, (α i).o + st * ei.size + len * ei.size, none⟩ := by rw [had', addr_add]
              have hrun := run_append_in (ty := ty) h0 h1 ht0 ht1 hd hi hsrc (sLen := len) (sCap := (α i).cap - st) (a := ad) hfit (by rw [hadd]; exact hst)
              have hcells : ∀ j v, (q'.vals (len + n))[j]? = some v → ((c.toList.take ((α i).o + st * ei.size + len * ei.size + 0) ++ q.vals n ++ c.toList.drop ((α i).o + st * ei.size + len * ei.size + 0 + (q.vals n).length)).toArray)[(α i).o + st * ei.size + j]? = some v := fun j v hj => by
                rw [j2] at hj
                rw [List.getElem?_toArray, splice_get (l := c.toList) (us := q.vals n) (o := (α i).o + st * ei.size + len * ei.size + 0) (by simp; omega) ((α i).o + st * ei.size + j)]
                rw [List.getElem?_append, hoL] at hj
                by_cases hjl : j < len * ei.size
                · rw [if_pos hjl] at hj; rw [if_pos (by omega)]
                  simpa using hold j v hj
                · rw [if_neg hjl] at hj; rw [if_neg (by omega)]
                  have := lt_of_get hj
                  rw [if_pos (by omega)]
                  rw [show (α i).o + st * ei.size + j - ((α i).o + st * ei.size + len * ei.size + 0) = j - len * ei.size by omega]; exact hj
              obtain ⟨m1, m2⟩ := share_step hs hw hb hm hr hlive (c := c) (t := t) (fz := fz) k1 (c' := (c.toList.take ((α i).o + st * ei.size + len * ei.size + 0) ++ q.vals n ++ c.toList.drop ((α i).o + st * ei.size + len * ei.size + 0 + (q.vals n).length)).toArray) (by simp; omega) (q := q') (n := len + n) (o := (α i).o + st * ei.size) (cap := (α i).cap - st) (esz := ei.size) j1 hcells (by
                have : st * ei.size + ((α i).cap - st) * ei.size = (α i).cap * ei.size := by rw [← Nat.add_mul]; congr 1; omega
                rw [hez] at k5; omega)
              refine ⟨_, _, _, hrun, m1, m2, .ac (.one ?_), ?_, heapWF_snoc hw1 (segWF _ q' _)⟩
              · have hv := V.gs (α := newLoc α h.length ⟨(α i).b, (α i).o + st * ei.size, (α i).cap - st, true⟩) h.length ei.size 0 (len + n) ad (by rw [newLoc_new]) (by rw [newLoc_new]; show 0 + (len + n) ≤ (α i).cap - st; omega) hsp (by
                  rw [newLoc_new]; right; rw [had']; simp)
                rw [newLoc_new] at hv
                exact hv
              · have := gsWF_new (h := h.set i { b with segs := [] }) (sz := ei.size) (m := len + n) (q := q')
                rwa [hln] at this
          · refine out (some ad) len ((α i).cap - st) ((q0.sft st).vals len) rfl (by omega) j1 hs' j2 fun w' hw' => ?_
            refine run_firstCells_some w' ei.size len ad len _ ((q0.sft st).vals len) hoL fun j u hj => ?_
            have hpos : 0 < len := by
              rcases Nat.eq_zero_or_pos len with h0 | h0
              · subst h0; simp [Sq.vals] at hj
              · exact h0
            have had' : ad = ⟨(α i).b, (α i).o + st * ei.size, none⟩ := by
              rcases had with had | had
              · omega
              · exact had
            rw [cell_heap hw', had', addr_add]
            have := hold j u hj
            simp only [World.cell?, k1]
            simpa [Nat.add_assoc] using this
      · cases e
    · -- onto one of a known capacity
      rename_i i off sz st len cap
      obtain ⟨hsz, e'⟩ := ifK_inv e
      replace e := e'
      clear e'
      have hsz := Nat.eq_of_beq_eq_true hsz
      subst hsz
      obtain ⟨b, hb, e⟩ := getK_inv e
      obtain ⟨hm, e⟩ := ifK_inv e
      obtain ⟨⟨n0, q0⟩, hq0, e⟩ := optK_inv e
      have hlive : b.live := seqAt_live hq0
      rcases cond_inv e with ⟨hfit, e⟩ | ⟨hfit, e⟩
      · have hfit := Nat.le_of_ble_eq_true hfit
        obtain ⟨q', hq', e⟩ := optK_inv e
        rcases cond_inv e with ⟨hpos, e⟩ | ⟨_, e⟩
        · rw [blt_eq] at hpos
          have hpos : 0 < n := by simpa using hpos
          rcases cond_inv e with ⟨hN, e⟩ | ⟨_, e⟩
          · have hN := Nat.le_of_ble_eq_true hN
            obtain ⟨l, hl, e⟩ := optK_inv e
            rw [setK_eq] at e
            refine ⟨_, _, _, _, e, ⟨fun j hj hjl => ?_, fun hl => (by cases hl), (by simp), fun α w s hw hs hp => ?_⟩⟩
            · rw [List.getElem?_set_ne (fun h => hj (by simp [h]))]
            obtain ⟨va, vx, ty, w1, w2, v1, v2, rfl⟩ := hp
            have hsrc := hq α w vx w2 v2 hs
            cases v1; rename_i v1
            cases v1 with
            | sl _ _ _ _ _ _ ad hlc hsp had =>
              have had : ad = ⟨(α i).b, (α i).o + (off + st * ei.size), none⟩ := by
                rcases had with had | had
                · omega
                · exact had
              have hfitS : Fit b.segs l := by
                obtain ⟨vs, hvs⟩ : ∃ vs, SegsV α b.segs vs := by
                  cases hr : (α i).real with
                  | true => obtain ⟨c, t, fz, vs, k1, k2, _⟩ := (hs.blk i b hb).ex hr; exact ⟨vs, k2⟩
                  | false => exact ⟨[], (hs.blk i b hb).nl hr⟩
                obtain ⟨g1, g2, g3, g4, _⟩ := seqAt_ok hq0 hvs
                refine putAt_fit hl g4 ?_ fun m hm' => ?_
                · rw [Sq.seg_len, Sq.seg_len, (overQ_ok hq').1]
                · rw [Sq.arrLen_seg] at hm' ⊢; exact hm'
              have hkey : ∀ vs, SegsV α b.segs vs → SegsV α l (vs.take (off + (st + len) * ei.size) ++ q.vals n ++ vs.drop (off + (st + len) * ei.size + (q.vals n).length)) ∧ off + (st + len) * ei.size + (q.vals n).length ≤ vs.length := fun vs hvs => by
                obtain ⟨g1, g2, g3, g4, rest, g5⟩ := seqAt_ok hq0 hvs
                obtain ⟨j1, j2⟩ := overQ_vals hq' g2 hsrc.ok hN
                have hl0 := Sq.vals_len g2
                have hl1 := Sq.vals_len hsrc.ok
                rw [hsrc.sz] at hl1
                have hsz0 : 0 < ei.size ∨ ei.size = 0 := by omega
                rcases hsz0 with hsz0 | hsz0
                · have hpos2 : 0 < (q.vals n).length := by rw [hl1]; exact Nat.mul_pos hpos hsz0
                  have hin : (st + len) * ei.size + (q.vals n).length ≤ (q0.vals n0).length := by
                    rw [hl0, hl1, g1, ← Nat.add_mul]; exact Nat.mul_le_mul_right _ hN
                  obtain ⟨m1, m2⟩ := splice_in g5 hin hpos2
                  have hlen' : (q'.vals n0).length = (q0.seg n0).len := by rw [Sq.vals_len j1, (overQ_ok hq').1, Sq.seg_len]
                  have := putAt_ok hl g4 hvs (Sq.segsV1 j1) hlen'
                  rw [j2, Sq.seg_len, ← hl0, g1, Nat.add_mul (st + len) n, ← hl1] at this
                  rw [m1] at this
                  exact ⟨this, m2⟩
                · exfalso
                  have := overQ_ok hq'
                  rw [hsz0] at hq0
                  have hz0 : q.sz = 0 := by rw [hsrc.sz, hsz0]
                  have hz1 : q0.sz = 0 := by rw [← this.2.1]; exact hz0
                  exact hszne hsz0
              obtain ⟨w', k1, k2, k3⟩ := store_run (P := P) hs hb hm (us := q.vals n) (o := off + (st + len) * ei.size) (Sq.vals_one hsrc.ok) hfitS hkey (fun _ => hlive)
              have hadd : ad.add (len * ei.size) = ⟨(α i).b, (α i).o + (off + (st + len) * ei.size), none⟩ := by
                rw [had, addr_add, Nat.add_mul]; congr 1; omega
              have hrun := run_append_in (ty := ty) h0 h1 ht0 ht1 hd hi hsrc (sLen := len) (sCap := cap) (a := ad) hfit (by rw [hadd]; exact k1)
              refine ⟨_, _, _, hrun, k2, k3, .ac (.one (.sl _ _ _ _ _ _ _ hfit hsp (.inr had))), ?_, ?_⟩
              · refine ⟨⟨{ b with segs := l }, by simp [lt_of_get hb], fun m hm' => ?_⟩, trivial⟩
                have hm2 := hfitS off m hm'
                have hb2 : arrLen b.segs off = some n0 := by
                  obtain ⟨vs, hvs⟩ : ∃ vs, SegsV α b.segs vs := by
                    cases hr : (α i).real with
                    | true => obtain ⟨c, t, fz, vs, k1, k2, _⟩ := (hs.blk i b hb).ex hr; exact ⟨vs, k2⟩
                    | false => exact ⟨[], (hs.blk i b hb).nl hr⟩
                  exact (seqAt_ok hq0 hvs).2.2.1
                rw [hb2] at hm2; cases hm2; omega
              · refine heapWF_set hb hw ?_ hfitS
                exact putAt_WF hl (hw i b hb) (segWF h q' n0)
          · cases e
        · cases e
      · obtain ⟨q', hq', e⟩ := optK_inv e
        have hfit : ¬ (len + n ≤ cap) := fun hle => by rw [Nat.ble_eq_true_of_le hle] at hfit; cases hfit
        rcases cond_inv e with ⟨hroom, e⟩ | ⟨_, e⟩
        · have e := newGs_inv e
          refine ⟨_, _, _, _, e, ⟨fun j _ hjl => (by rw [List.getElem?_append_left hjl]), fun hl => (by cases hl), (by simp), fun α w s hw hs hp => ?_⟩⟩
          obtain ⟨va, vx, ty, w1, w2, v1, v2, rfl⟩ := hp
          have hsrc := hq α w vx w2 v2 hs
          obtain ⟨n1, qa, e3, ha⟩ := elemsK_inv (P := P) (h := h) (sz := ei.size) (x := .one (.sl i off ei.size st len cap)) (K := fun n q => some (n, q)) (r := (len, q0.sft st)) (by
            simp only [elemsK, ifK, Nat.beq_refl, if_true]
            rw [getK_at' hb]
            simp [hq0])
          cases e3
          have hsa := ha α w va w1 v1 hs
          cases v1; rename_i v1
          cases v1 with
          | sl _ _ _ _ _ _ ad hlc hsp had =>
            obtain ⟨j1, j2⟩ := catQ_vals hq' hsa.ok hsrc.ok
            have hs' : q'.sz = ei.size := by rw [(catQ_ok hq').1]; exact hsa.sz
            have hrun := run_append_out (ty := ty) (z := z) h0 h1 ht0 ht1 hd hi hz hsrc (sLen := len) (sCap := cap) (base := some ad) (olds := (q0.sft st).vals len) (by omega) hroom hbn (fun w' hw' => by
              have := hsa.cells w' hw'
              simpa [Builtin.firstCells] using this)
            have hcap : len + n ≤ grownCap w (len + n) cap te := grownCap_le
            obtain ⟨g1, g2⟩ := grown_cells (olds := (q0.sft st).vals len) (q := q) (q' := q') (n := n) (m := len + n) (z := z.cells) (cap := grownCap w (len + n) cap te) hzl j2 j1 hs' hcap
            obtain ⟨α', k1, k2, k3⟩ := gs_new (w := w.drew) (e := te) (fz := (0, 0)) (sz := ei.size) (hs.heap rfl) hw j1 g1 g2 hcap (fun o _ => by simp)
            exact ⟨α', _, _, hrun, k1.drew, k2, .ac k3, gsWF_new, heapWF_snoc hw (segWF h q' _)⟩
        · cases e
    · cases e
end Ev

namespace Ev
open Go

theorem range0 : Array.range 0 = #[] := rfl

/-- zero elements, one behind the other -/
theorem zero_rows {z : Array Value} {n sz : Nat} (hz : z.size = sz) (h0 : sz ≠ 0) : ((Array.range (n * sz)).map (fun i => z[i % z.size]!)).toList = (List.range n).flatMap fun _ => z.toList := by
  have hfl : ∀ j, j < n → ((fun _ => z.toList) j : List Value).length = sz := fun j _ => by simpa using hz
  apply List.ext_getElem?
  intro x
  by_cases hx : x < n * sz
  · have hd : x / sz < n := Nat.div_lt_of_lt_mul (by rw [Nat.mul_comm]; exact hx)
    have hm : x % sz < sz := Nat.mod_lt _ (by omega)
    have key := flatMap_get hfl (x / sz) (x % sz) hd hm
    rw [Nat.mul_comm, Nat.div_add_mod] at key
    rw [key]
    simp only [Array.toList_map, Array.toList_range, List.getElem?_map, List.getElem?_range hx, Option.map_some, hz]
    have hm' : x % sz < z.size := by omega
    simp [hm']
  · have h1 : ((Array.range (n * sz)).map (fun i => z[i % z.size]!)).toList.length = n * sz := by simp
    rw [List.getElem?_eq_none (by omega), List.getElem?_eq_none (by rw [flatMap_length hfl]; omega)]

theorem newSl_inv {β : Type} {h : Heap} {segs : List Seg} {sz len cap : Nat} {K : KR β} {r : β} (e : newSl h segs sz len cap K = some r) :
    K (.ac (.one (.sl h.length 0 sz 0 len cap))) (h ++ [⟨true, 0, segs⟩]) [] true = some r := by
  unfold newSl addBlk at e
  rwa [snocK_eq] at e

/-- a new array, and a slice of it -/
theorem sl_new {α : Nat → Loc} {h : Heap} {w : World} (s : Sat α h w) (hw : heapWF h) {segs : List Seg} {vs : List Value} {sz len cap : Nat} {e : TypeId} (hv : SegsV α segs vs) (hs : segsWF h segs) (hl : len ≤ cap) {c : Array Value} (hc : c.toList = vs) :
    ∃ α', Stp α h w α' (h ++ [⟨true, 0, segs⟩]) (w.alloc (.cells c e)) ∧ Sat α' (h ++ [⟨true, 0, segs⟩]) (w.alloc (.cells c e)) ∧ ACV α' (.one (.sl h.length 0 sz 0 len cap)) (.slice (some ⟨w.heap.size, 0, none⟩) len cap) := by
  obtain ⟨s1, s2⟩ := alloc_step (t := e) (esz := 0) (cap := 0) (fz := (0, 0)) (c := c) s hw hv hs (fun j v hj => by rw [← hc] at hj; simpa using hj) (by simp) (fun o _ => by simp)
  refine ⟨_, s1, s2, .one ?_⟩
  have := V.sl (α := newLoc α h.length ⟨w.heap.size, 0, 0, true⟩) h.length 0 sz 0 len cap ⟨w.heap.size, 0, none⟩ hl rfl (.inr (by rw [newLoc_new]; simp))
  exact this

theorem zeroQ_ok {P : Program} (hz : ZeroOk P) {e : TypeId} {q : Sq} (h : zeroQ P e = some q) : ∃ i v, P.info? e = some i ∧ i.zero = some v ∧ (∀ j, q.el j = v.cells.toList) ∧ v.cells.toList.length = q.sz ∧ ∀ u ∈ v.cells.toList, u.oneCell' = true := by
  unfold zeroQ at h
  split at h
  · rename_i k v hz0
    cases h
    obtain ⟨i, u, h1, h2, h3⟩ := hz e _ hz0
    have h3 := h3 (fun _ => ⟨0, 0, 0, false⟩)
    cases h3; rename_i h3; cases h3
    exact ⟨i, _, h1, h2, fun j => rfl, rfl, fun u hu => by simp [Value.cells] at hu; subst hu; rfl⟩
  · rename_i z _ hz0
    split at h
    · rename_i vs hvs
      cases h
      obtain ⟨i, u, h1, h2, h3⟩ := hz e _ hz0
      have h3 := (h3 (fun _ => ⟨0, 0, 0, false⟩)).cells
      have h4 := valsOf_ok hvs h3
      exact ⟨i, _, h1, h2, fun j => h4, by rw [← h4]; rfl, h3.one⟩
    · cases h
  · cases h

theorem makeSliceK_inv {β : Type} {P : Program} (hZ : ZeroOk P) {h : Heap} {t : TypeId} {l c : Int} {K : KR β} {r : β} (e : makeSliceK P h t l c K = some r) :
    ∃ y h' ws lb, K y h' ws lb = some r ∧ Prim P h y h' ws lb (fun _ _ s => ∃ kl kc, s = Instr.makeSlice t (.int kl l) (.int kc c)) := by
  unfold makeSliceK at e
  split at e
  · rename_i te hu
    obtain ⟨ei, hei, e⟩ := optK_inv e
    obtain ⟨q, hq, e⟩ := optK_inv e
    obtain ⟨hqs, e⟩ := ifK_inv e
    obtain ⟨hsz, e⟩ := ifK_inv e
    have hqs := Nat.eq_of_beq_eq_true hqs
    have hsz0 : ei.size ≠ 0 := fun h0 => by rw [h0] at hsz; simp at hsz
    obtain ⟨i, v, h1, h2, h3, h4, h5⟩ := zeroQ_ok hZ hq
    rw [hei] at h1; cases h1
    rcases cond_inv e with ⟨g1, e⟩ | ⟨_, e⟩
    · rcases cond_inv e with ⟨g2, e⟩ | ⟨_, e⟩
      · rcases cond_inv e with ⟨g3, e⟩ | ⟨_, e⟩
        · rw [iLe_eq] at g1 g2 g3
          have g1 : 0 ≤ IntKind.i64.wrap l := by simpa using g1
          have g2 : IntKind.i64.wrap l ≤ IntKind.i64.wrap c := by simpa using g2
          have g3 : (ei.bytes : Int) * IntKind.i64.wrap c ≤ 281474976710656 := by simpa using g3
          have e := newSl_inv e
          refine ⟨_, _, _, _, e, ⟨fun j _ hjl => (by rw [List.getElem?_append_left hjl]), fun hl => (by cases hl), (by simp), fun α w s hw hs hp => ?_⟩⟩
          obtain ⟨kl, kc, rfl⟩ := hp
          have hvz : v.cells.size = ei.size := by have := h4; rw [hqs] at this; simpa using this
          have hok : q.ok (IntKind.i64.wrap c).toNat := fun j _ => by rw [h3]; exact ⟨h4, h5⟩
          have hval : q.vals (IntKind.i64.wrap c).toNat = (List.range (IntKind.i64.wrap c).toNat).flatMap fun _ => v.cells.toList := flat_congr fun j _ => h3 j
          have hcs : (Array.map (fun x => v.cells[x % v.cells.size]!) (Array.range ((IntKind.i64.wrap c).toNat * ei.size))).toList = q.vals (IntKind.i64.wrap c).toNat := by
            rw [hval]; exact zero_rows hvz hsz0
          obtain ⟨α', k1, k2, k3⟩ := sl_new (sz := ei.size) (e := te) (len := (IntKind.i64.wrap l).toNat) (cap := (IntKind.i64.wrap c).toNat) hs hw (Sq.segsV1 hok) (segWF h q _) (by omega) hcs
          refine ⟨α', _, _, ?_, k1, k2, .ac k3, ?_, heapWF_snoc hw (segWF h q _)⟩
          · have n1 : ¬ (IntKind.i64.wrap c < 0) := by omega
            have n2 : ¬ (281474976710656 < (ei.bytes : Int) * IntKind.i64.wrap c) := by omega
            have n3 : ¬ (IntKind.i64.wrap l < 0) := by omega
            have n4 : ¬ (IntKind.i64.wrap c < IntKind.i64.wrap l) := by omega
            by_cases hc0 : (IntKind.i64.wrap c).toNat = 0
            · have hw0 : IntKind.i64.wrap c = 0 := by omega
              have hl0 : IntKind.i64.wrap l = 0 := by omega
              simp [Instr.makeSlice, run_underlying hu, asInt, asIntOf, typeInfo, hei, Go.sizeOf, hw0, hl0, newRow, range0]
            · have hne : ¬ ((IntKind.i64.wrap c).toNat * ei.size = 0) := fun h0 => by rcases Nat.mul_eq_zero.1 h0 with h0 | h0; exact hc0 h0; exact hsz0 h0
              simp only [Instr.makeSlice, Sem.run_bind, run_underlying hu, Result.andThen_ok, asInt, asIntOf, typeInfo, run_program, hei, Go.sizeOf, Sem.run_pure, zeroValue, h2, n1, n2, n3, n4, hne]
              simp [n1, n2, n3, n4, hne, newRow, hei, h2]
          · refine ⟨⟨⟨true, 0, [q.seg (IntKind.i64.wrap c).toNat]⟩, by simp, fun n hn => ?_⟩, trivial⟩
            rw [Sq.arrLen_seg] at hn; cases hn; omega
        · cases e
      · cases e
    · cases e
  · cases e

theorem segsV_reps {α : Nat → Loc} {l : List Seg} {vs : List Value} (h : SegsV α l vs) : ∀ n, SegsV α (reps l n) ((List.range n).flatMap fun _ => vs)
  | 0 => .nil
  | n + 1 => by
    have := h.append (segsV_reps h n)
    rw [show n + 1 = 1 + n by omega, range_add_flat]
    simpa [reps, Nat.add_comm] using this

theorem zeroSegs_ok {P : Program} (hz : ZeroOk P) {e : TypeId} {n len : Nat} {l : List Seg} (h : zeroSegs P e len = some (n, l)) : ∃ i v, P.info? e = some i ∧ i.zero = some v ∧ v.cells.toList.length = n ∧ (∀ hp, segsWF hp l) ∧ ∀ α, SegsV α l ((List.range len).flatMap fun _ => v.cells.toList) := by
  unfold zeroSegs at h
  split at h
  · rename_i k v hz0
    cases h
    obtain ⟨i, u, h1, h2, h3⟩ := hz e _ hz0
    have h3 := h3 (fun _ => ⟨0, 0, 0, false⟩)
    cases h3; rename_i h3; cases h3
    refine ⟨i, _, h1, h2, rfl, fun _ => trivial, fun α => ?_⟩
    show SegsV α _ ((List.range len).flatMap fun _ => [Value.int k v])
    rw [flatMap_single (fun _ => Value.int k v)]
    have := SegsV.ri (α := α) (n := len) (k := k) (f := fun _ => v) .nil
    simpa using this
  · rename_i z _ hz0
    cases h
    obtain ⟨i, u, h1, h2, h3⟩ := hz e _ hz0
    exact ⟨i, _, h1, h2, (h3 (fun _ => ⟨0, 0, 0, false⟩)).cells.len, fun hp => segsWF_reps (zeroA_WF hz0) _, fun α => segsV_reps (h3 α).cells _⟩
  · cases h

theorem fold_set_size (off : Nat) : ∀ (l : List (Value × Nat)) (cells : Array Value), (l.foldl (fun (cs : Array Value) (p : Value × Nat) => cs.setIfInBounds (off + p.2) p.1) cells).size = cells.size
  | [], cells => rfl
  | p :: l, cells => by rw [List.foldl_cons, fold_set_size off l]; simp

theorem fill_size {place : Nat → Option (Nat × Nat)} : ∀ {vs : List (Nat × Value)} {cells cells' : Array Value}, Instr.fill place cells vs = some cells' → cells'.size = cells.size
  | [], cells, cells', h => by cases h; rfl
  | (i, v) :: vs, cells, cells', h => by
    simp only [Instr.fill] at h
    split at h
    · cases h
    · split at h
      · cases h
      · have := fill_size h
        rw [this, ← Array.foldl_toList]
        exact fold_set_size _ _ _

theorem buildSliceK_inv {β : Type} {P : Program} (hZ : ZeroOk P) {h : Heap} {t : TypeId} {len : Nat} {ps : List (Nat × AC)} {K : KR β} {r : β} (e : buildSliceK P h t len ps K = some r) :
    ∃ y h' ws lb, K y h' ws lb = some r ∧ Prim P h y h' ws lb (fun α _ s => ∃ vs : List (Nat × Value), PartsV α ps vs ∧ (∀ p ∈ ps, acWF h p.2) ∧ s = Instr.buildSlice t len vs.toArray) := by
  unfold buildSliceK at e
  split at e
  · rename_i te hu
    obtain ⟨ei, hei, e⟩ := optK_inv e
    obtain ⟨hbig, e⟩ := ifK_inv e
    obtain ⟨hsz, e⟩ := ifK_inv e
    obtain ⟨⟨n, z⟩, hz, e⟩ := optK_inv e
    obtain ⟨hn, e⟩ := ifK_inv e
    obtain ⟨l, hl, e⟩ := optK_inv e
    have hn := Nat.eq_of_beq_eq_true hn
    have hn : n = ei.size := hn
    have hbig := Nat.le_of_ble_eq_true hbig
    have hsz0 : ei.size ≠ 0 := fun h0 => by rw [h0] at hsz; simp at hsz
    obtain ⟨i, v, h1, h2, h3, h4, h5⟩ := zeroSegs_ok hZ hz
    rw [hei] at h1; cases h1
    have hvz : v.cells.size = ei.size := by rw [hn] at h3; simpa using h3
    have key : ∀ α w s (segs : List Seg), (∀ vs : List Value, vs.length = len * ei.size → SegsV α l vs → SegsV α segs vs ∧ (segsWF h l → segsWF h segs) ∧ ∀ m, arrLen segs 0 = some m → len ≤ m) → heapWF h → Sat α h w → (∃ vs : List (Nat × Value), PartsV α ps vs ∧ (∀ p ∈ ps, acWF h p.2) ∧ s = Instr.buildSlice t len vs.toArray) →
        ∃ α' w' v, s.run P w = .ok v w' ∧ Stp α h w α' (h ++ [⟨true, 0, segs⟩]) w' ∧ Sat α' (h ++ [⟨true, 0, segs⟩]) w' ∧ AVV α' (.ac (.one (.sl h.length 0 ei.size 0 len len))) v ∧ avWF (h ++ [⟨true, 0, segs⟩]) (.ac (.one (.sl h.length 0 ei.size 0 len len))) ∧ heapWF (h ++ [⟨true, 0, segs⟩]) := by
      intro α w s segs hsg hw hs hp
      obtain ⟨vs, hp, hpw, rfl⟩ := hp
      have hbase : ((Array.range (len * ei.size)).map (fun i => v.cells[i % v.cells.size]!)).toList = (List.range len).flatMap fun _ => v.cells.toList := zero_rows hvz hsz0
      obtain ⟨cells', k1, k2⟩ := fill_ok (cells := (Array.range (len * ei.size)).map (fun i => v.cells[i % v.cells.size]!)) hl hp (by rw [hbase]; exact h5 α)
      have hcl : cells'.toList.length = len * ei.size := by have := fill_size k1; simpa using this
      obtain ⟨m1, m2, m3⟩ := hsg _ hcl k2
      have hwf := m2 (setParts_WF hl hpw (h4 h))
      obtain ⟨α', j1, j2, j3⟩ := sl_new (sz := ei.size) (e := te) (len := len) (cap := len) hs hw m1 hwf (Nat.le_refl _) (c := cells') rfl
      refine ⟨α', _, _, ?_, j1, j2, .ac j3, ?_, heapWF_snoc hw hwf⟩
      · have n1 : ¬ (16777216 < len * ei.size) := by omega
        by_cases hl0 : len = 0
        · subst hl0
          simp only [Nat.zero_mul] at k1
          have k1' : Instr.fill (fun i => some (i * ei.size, ei.size)) #[] vs = some cells' := by simpa [range0] using k1
          simp [Instr.buildSlice, run_underlying hu, Go.sizeOf, typeInfo, hei, newRow, k1', range0]
        · have hne : ¬ (len * ei.size = 0) := fun h0 => by rcases Nat.mul_eq_zero.1 h0 with h0 | h0; exact hl0 h0; exact hsz0 h0
          simp [Instr.buildSlice, run_underlying hu, Go.sizeOf, typeInfo, hei, zeroValue, h2, n1, hne, newRow, k1]
      · refine ⟨⟨⟨true, 0, segs⟩, by simp, fun n hn => ?_⟩, trivial⟩
        have := m3 n hn; omega
    split at e
    · rename_i us hus
      have e := newSl_inv e
      refine ⟨_, _, _, _, e, ⟨fun j _ hjl => (by rw [List.getElem?_append_left hjl]), fun hl => (by cases hl), (by simp), fun α w s hw hs hp => ?_⟩⟩
      refine key α w s _ (fun vs hvl hvs => ?_) hw hs hp
      have h6 := valsOf_ok hus hvs
      obtain ⟨r1, r2⟩ := rowsOf_ok (n := len) (vs := us) (sz := ei.size) (by rw [h6, hvl]) (by rw [h6]; exact hvs.one)
      refine ⟨?_, fun _ => trivial, fun m hm => ?_⟩
      · have := Sq.segsV1 (α := α) r1
        rw [r2, h6] at this; rw [h6]; exact this
      · simp [arrLen, segAt] at hm; omega
    · obtain ⟨hlo, e⟩ := ifK_inv e
      have e := newSl_inv e
      refine ⟨_, _, _, _, e, ⟨fun j _ hjl => (by rw [List.getElem?_append_left hjl]), fun hl => (by cases hl), (by simp), fun α w s hw hs hp => ?_⟩⟩
      refine key α w s _ (fun vs _ hvs => ⟨hvs, id, fun m hm => ?_⟩) hw hs hp
      simp only [lenOk, hm] at hlo
      exact Nat.le_of_ble_eq_true hlo
  · cases e
end Ev

namespace Ev
open Go

/-! ## Slicing -/
theorem addr_spot {a : Addr} {n : Nat} (h : a.spot = none) : (a.add n).spot = none := by unfold Addr.add; split <;> first | exact h | rfl

theorem hiK_inv {β : Type} {C : Cfg} {fr : Fr} {hi : Option Operand} {c len : Nat} {K : Nat → Option β} {r : β} (e : hiK C fr hi c len K = some r) :
    ∃ b, K b = some r ∧ ((hi = none ∧ b = len) ∨ ∃ o k n, hi = some o ∧ Ev1 C fr o (.ac (.one (.val (.int k n)))) ∧ 0 ≤ n ∧ n.toNat = b ∧ b ≤ c) := by
  unfold hiK at e
  split at e
  · exact ⟨_, e, .inl ⟨rfl, rfl⟩⟩
  · rename_i o
    obtain ⟨y, hy, e⟩ := evalC_inv e
    obtain ⟨k, n, rfl, e⟩ := intK_inv e
    rcases cond_inv e with ⟨hb, e⟩ | ⟨_, e⟩
    · have hb : 0 ≤ n ∧ n ≤ c := by simpa [inBle] using hb
      exact ⟨_, e, .inr ⟨o, k, n, rfl, hy, hb.1, rfl, by omega⟩⟩
    · cases e

theorem loK_inv {β : Type} {C : Cfg} {fr : Fr} {lo : Option Operand} {c : Nat} {K : Nat → Option β} {r : β} (e : loK C fr lo c K = some r) :
    ∃ a, K a = some r ∧ a ≤ c ∧ ((lo = none ∧ a = 0) ∨ ∃ o k n, lo = some o ∧ Ev1 C fr o (.ac (.one (.val (.int k n)))) ∧ 0 ≤ n ∧ n.toNat = a) := by
  unfold loK at e
  split at e
  · exact ⟨_, e, Nat.zero_le _, .inl ⟨rfl, rfl⟩⟩
  · rename_i o
    obtain ⟨y, hy, e⟩ := evalC_inv e
    obtain ⟨k, n, rfl, e⟩ := intK_inv e
    rcases cond_inv e with ⟨hb, e⟩ | ⟨_, e⟩
    · have hb : 0 ≤ n ∧ n ≤ c := by simpa [inBle] using hb
      exact ⟨_, e, by omega, .inr ⟨o, k, n, rfl, hy, hb.1, rfl⟩⟩
    · cases e

/-- an operand that is an int -/
theorem Ev1.int {C : Cfg} {xs : List Operand} {fr : Fr} {h : Heap} {α : Nat → Loc} {w : World} {a : Act} (H : Hyp C xs fr h α w a) {x : Operand} {k : IntKind} {n : Int} (e : Ev1 C fr x (.ac (.one (.val (.int k n))))) (hx : x ∈ xs) : a.eval x = .int k n := by
  obtain ⟨h1, _⟩ := e.okC H hx
  generalize a.eval x = z at h1
  cases h1; rename_i h1; cases h1; rfl

theorem run_bounds {P : Program} {w : World} {sl : Bool} {len cap a b : Nat} {lo hi : Option Value} (hc : b ≤ cap) (hab : a ≤ b) (hhi : (hi = none ∧ b = len) ∨ ∃ k n, hi = some (.int k n) ∧ 0 ≤ n ∧ n.toNat = b)
    (hlo : (lo = none ∧ a = 0) ∨ ∃ k n, lo = some (.int k n) ∧ 0 ≤ n ∧ n.toNat = a) : (Instr.sliceBounds sl len cap lo hi none).run P w = .ok (a, b, cap) w := by
  have key : ∀ (k : IntKind) (n : Int) (y : Nat) (code : BoundsCode), 0 ≤ n → n.toNat ≤ y → (Instr.sliceBound (.int k n) y code).run P w = .ok n.toNat w := fun k n y code h0 h1 => by
    have : n ≤ (y : Int) := by omega
    simp [Instr.sliceBound, asIntOf, h0, this]
  rcases hhi with ⟨rfl, rfl⟩ | ⟨k, n, rfl, h0, h1⟩
  · rcases hlo with ⟨rfl, rfl⟩ | ⟨k', n', rfl, h2, h3⟩
    · simp [Instr.sliceBounds]
    · have := key k' n' b (.sliceB) h2 (by omega)
      simp [Instr.sliceBounds, this, h3]
  · have k1 : ∀ code, (Instr.sliceBound (.int k n) cap code).run P w = .ok n.toNat w := fun code => key k n cap code h0 (by omega)
    rcases hlo with ⟨rfl, rfl⟩ | ⟨k', n', rfl, h2, h3⟩
    · simp [Instr.sliceBounds, k1, h1]
    · have k2 : ∀ code, (Instr.sliceBound (.int k' n') b code).run P w = .ok n'.toNat w := fun code => key k' n' b code h2 (by omega)
      simp [Instr.sliceBounds, k1, h1, k2, h3]

theorem sliceK_inv {β : Type} {C : Cfg} {fr : Fr} {h : Heap} {t : TypeId} {x : AC} {lo hi : Option Operand} {K : AC → Option β} {r : β} (e : sliceK C fr h t x lo hi K = some r) :
    ∃ y, K y = some r ∧ ∀ (α : Nat → Loc) (w : World) (v : Value) (lo' hi' : Option Value), (∀ o k n, hi = some o → Ev1 C fr o (.ac (.one (.val (.int k n)))) → hi' = some (.int k n)) → (hi = none → hi' = none) →
      (∀ o k n, lo = some o → Ev1 C fr o (.ac (.one (.val (.int k n)))) → lo' = some (.int k n)) → (lo = none → lo' = none) → ACV α x v → acWF h x → ∃ u, (Instr.sliceAt t v lo' hi' none).run C.P w = .ok u w ∧ ACV α y u ∧ acWF h y := by
  have conv : ∀ {hi' lo' : Option Value} {a b c len : Nat}, (∀ o k n, hi = some o → Ev1 C fr o (.ac (.one (.val (.int k n)))) → hi' = some (.int k n)) → (hi = none → hi' = none) →
      (∀ o k n, lo = some o → Ev1 C fr o (.ac (.one (.val (.int k n)))) → lo' = some (.int k n)) → (lo = none → lo' = none) →
      ((hi = none ∧ b = len) ∨ ∃ o k n, hi = some o ∧ Ev1 C fr o (.ac (.one (.val (.int k n)))) ∧ 0 ≤ n ∧ n.toNat = b ∧ b ≤ c) → ((lo = none ∧ a = 0) ∨ ∃ o k n, lo = some o ∧ Ev1 C fr o (.ac (.one (.val (.int k n)))) ∧ 0 ≤ n ∧ n.toNat = a) → len ≤ c →
      b ≤ c ∧ ((hi' = none ∧ b = len) ∨ ∃ k n, hi' = some (.int k n) ∧ 0 ≤ n ∧ n.toNat = b) ∧ ((lo' = none ∧ a = 0) ∨ ∃ k n, lo' = some (.int k n) ∧ 0 ≤ n ∧ n.toNat = a) := by
    intro hi' lo' a b c len h1 h2 h3 h4 hh hl hlc
    refine ⟨?_, ?_, ?_⟩
    · rcases hh with ⟨_, rfl⟩ | ⟨_, _, _, _, _, _, _, hb⟩
      · exact hlc
      · exact hb
    · rcases hh with ⟨g1, rfl⟩ | ⟨o, k, n, g1, g2, g3, g4, _⟩
      · exact .inl ⟨h2 g1, rfl⟩
      · exact .inr ⟨k, n, h1 o k n g1 g2, g3, g4⟩
    · rcases hl with ⟨g1, rfl⟩ | ⟨o, k, n, g1, g2, g3, g4⟩
      · exact .inl ⟨h4 g1, rfl⟩
      · exact .inr ⟨k, n, h3 o k n g1 g2, g3, g4⟩
  unfold sliceK at e
  split at e
  · rename_i s hu
    obtain ⟨b, e, hh⟩ := hiK_inv e
    obtain ⟨a, e, hab, hl⟩ := loK_inv e
    refine ⟨_, e, fun α w v lo' hi' h1 h2 h3 h4 hv hw => ?_⟩
    obtain ⟨k1, k2, k3⟩ := conv h1 h2 h3 h4 hh hl (Nat.le_refl _)
    have hb := run_bounds (P := C.P) (w := w) (sl := false) (len := s.size) (cap := s.size) k1 hab k2 k3
    cases hv; rename_i hv; cases hv
    exact ⟨.string (s.extract a b), by simp [Instr.sliceAt, Instr.slice, run_underlying hu, hb], .one (.val _ rfl), trivial, trivial⟩
  · rename_i et hu
    obtain ⟨ei, hei, e⟩ := optK_inv e
    obtain ⟨b, e, hh⟩ := hiK_inv e
    obtain ⟨a, e, hab, hl⟩ := loK_inv e
    refine ⟨_, e, fun α w v lo' hi' h1 h2 h3 h4 hv hw => ?_⟩
    obtain ⟨k1, k2, k3⟩ := conv h1 h2 h3 h4 hh hl (Nat.le_refl _)
    have hb' : b = 0 := by omega
    have ha' : a = 0 := by omega
    subst hb'; subst ha'
    have hb := run_bounds (P := C.P) (w := w) (sl := true) (len := 0) (cap := 0) (Nat.le_refl _) (Nat.le_refl _) k2 k3
    cases hv; rename_i hv; cases hv
    exact ⟨.slice none 0 0, by simp [Instr.sliceAt, Instr.slice, run_underlying hu, hb, Go.sizeOf, typeInfo, hei], .one (.val _ rfl), trivial, trivial⟩
  · rename_i et i sz st len hu
    obtain ⟨ei, hei, e⟩ := optK_inv e
    obtain ⟨hsz, e⟩ := ifK_inv e
    have hsz := Nat.eq_of_beq_eq_true hsz
    obtain ⟨b, e, hh⟩ := hiK_inv e
    obtain ⟨a, e, hab, hl⟩ := loK_inv e
    refine ⟨_, e, fun α w v lo' hi' h1 h2 h3 h4 hv hw => ?_⟩
    obtain ⟨k1, k2, k3⟩ := conv h1 h2 h3 h4 hh hl (Nat.le_refl _)
    obtain ⟨⟨b0, hb0, hes, hn⟩, _⟩ := hw
    have hwf : acWF h (.one (.gs i sz (st + a) (b - a))) := ⟨⟨b0, hb0, hes, fun n hn' => by have := hn n hn'; omega⟩, trivial⟩
    cases hv; rename_i hv
    cases hv with
    | gsNil _ _ _ hr =>
      have hb' : b = 0 := by omega
      have ha' : a = 0 := by omega
      subst hb'; subst ha'
      have hb := run_bounds (P := C.P) (w := w) (sl := true) (len := 0) (cap := 0) (Nat.le_refl _) (Nat.le_refl _) k2 k3
      refine ⟨.slice none 0 0, by simp [Instr.sliceAt, Instr.slice, run_underlying hu, hb, Go.sizeOf, typeInfo, hei], .one ?_, hwf⟩
      exact .gsNil i sz (st + 0) hr
    | gs _ _ _ _ ad hr hc hsp had =>
      have hb := run_bounds (P := C.P) (w := w) (sl := true) (len := len) (cap := (α i).cap - st) (by omega) hab k2 k3
      refine ⟨.slice (some (if (α i).cap - st = a then ad else ad.add (a * ei.size))) (b - a) ((α i).cap - st - a), ?_, .one ?_, hwf⟩
      · simp only [Instr.sliceAt, Instr.slice, Sem.run_bind, run_underlying hu, Result.andThen_ok, hb, Go.sizeOf, typeInfo, run_program, hei, Sem.run_pure]
        congr 2
        split <;> simp
      · have := V.gs (α := α) i sz (st + a) (b - a) (if (α i).cap - st = a then ad else ad.add (a * ei.size)) hr (by omega) (by split; exact hsp; exact addr_spot hsp) (by
          by_cases hca : (α i).cap - st = a
          · left; omega
          · rw [if_neg hca]
            rcases had with had | had
            · omega
            · right; rw [had, addr_add, hsz, Nat.add_mul]; congr 1; omega)
        rwa [show (α i).cap - (st + a) = (α i).cap - st - a by omega] at this
  · rename_i et i off sz st len cap hu
    obtain ⟨ei, hei, e⟩ := optK_inv e
    obtain ⟨hsz, e⟩ := ifK_inv e
    have hsz := Nat.eq_of_beq_eq_true hsz
    obtain ⟨b, e, hh⟩ := hiK_inv e
    obtain ⟨a, e, hab, hl⟩ := loK_inv e
    refine ⟨_, e, fun α w v lo' hi' h1 h2 h3 h4 hv hw => ?_⟩
    obtain ⟨k1, k2, k3⟩ := conv h1 h2 h3 h4 hh hl (Nat.le_refl _)
    obtain ⟨⟨b0, hb0, hn⟩, _⟩ := hw
    have hwf : acWF h (.one (.sl i off sz (st + a) (b - a) (cap - a))) := ⟨⟨b0, hb0, fun n hn' => by have := hn n hn'; omega⟩, trivial⟩
    cases hv; rename_i hv
    cases hv with
    | sl _ _ _ _ _ _ ad hlc hsp had =>
      have hb := run_bounds (P := C.P) (w := w) (sl := true) (len := len) (cap := cap) (by omega) hab k2 k3
      refine ⟨.slice (some (if cap = a then ad else ad.add (a * ei.size))) (b - a) (cap - a), ?_, .one ?_, hwf⟩
      · simp only [Instr.sliceAt, Instr.slice, Sem.run_bind, run_underlying hu, Result.andThen_ok, hb, Go.sizeOf, typeInfo, run_program, hei, Sem.run_pure]
        congr 2
        split <;> simp
      · refine V.sl (α := α) i off sz (st + a) (b - a) (cap - a) _ (by omega) (by split; exact hsp; exact addr_spot hsp) ?_
        by_cases hca : cap = a
        · left; omega
        · rw [if_neg hca]
          rcases had with had | had
          · left; omega
          · right; rw [had, addr_add, hsz, Nat.add_mul]; congr 1; omega
  · rename_i n et i off hu
    obtain ⟨ei, hei, e⟩ := optK_inv e
    obtain ⟨bl, hbl, e⟩ := getK_inv e
    obtain ⟨hlo, e⟩ := ifK_inv e
    obtain ⟨b, e, hh⟩ := hiK_inv e
    obtain ⟨a, e, hab, hl⟩ := loK_inv e
    refine ⟨_, e, fun α w v lo' hi' h1 h2 h3 h4 hv hw => ?_⟩
    obtain ⟨k1, k2, k3⟩ := conv h1 h2 h3 h4 hh hl (Nat.le_refl _)
    have hwf : acWF h (.one (.sl i off ei.size a (b - a) (n - a))) := ⟨⟨bl, hbl, fun m hm => by
      simp only [lenOk, hm] at hlo
      have := Nat.le_of_ble_eq_true hlo; omega⟩, trivial⟩
    cases hv; rename_i hv; cases hv
    have hb := run_bounds (P := C.P) (w := w) (sl := false) (len := n) (cap := n) k1 hab k2 k3
    refine ⟨.slice (some (if n = a then ⟨(α i).b, (α i).o + off, none⟩ else Addr.add ⟨(α i).b, (α i).o + off, none⟩ (a * ei.size))) (b - a) (n - a), ?_, .one ?_, hwf⟩
    · simp [Instr.sliceAt, Instr.sureAddr, run_underlying hu, hb, Go.sizeOf, typeInfo, hei]
    · refine V.sl (α := α) i off ei.size a (b - a) (n - a) _ (by omega) (by split; rfl; exact addr_spot rfl) ?_
      by_cases hca : n = a
      · left; omega
      · rw [if_neg hca]
        right; rw [addr_add]; congr 1; omega
  · cases e
end Ev

namespace Ev
open Go

theorem lenK_inv {β : Type} {P : Program} {argTypes : Array TypeId} {x : AC} {K : AC → Option β} {r : β} (e : lenK P argTypes x K = some r) :
    ∃ v, K (.one (.val v)) = some r ∧ v.oneCell' = true ∧ ∀ (α : Nat → Loc) (u : Value) (w : World) (ty : TypeId), ACV α x u → (Builtin.len_ argTypes ty #[u]).run P w = .ok v w := by
  unfold lenK at e
  obtain ⟨t, ht, e1⟩ := optK_inv e
  clear e
  have e := e1
  clear e1
  split at e
  · rename_i s hu
    refine ⟨_, e, rfl, fun α u w ty hv => ?_⟩
    cases hv; rename_i hv; cases hv
    simp [Builtin.len_, ht, run_underlying hu, goInt]
  · rename_i n et hu
    refine ⟨_, e, rfl, fun α u w ty hv => ?_⟩
    simp [Builtin.len_, ht, run_underlying hu, goInt]
  · rename_i et hu
    refine ⟨_, e, rfl, fun α u w ty hv => ?_⟩
    cases hv; rename_i hv; cases hv
    simp [Builtin.len_, ht, run_underlying hu, goInt]
  · rename_i et i sz st len hu
    refine ⟨_, e, rfl, fun α u w ty hv => ?_⟩
    cases hv; rename_i hv; cases hv <;> simp [Builtin.len_, ht, run_underlying hu, goInt]
  · rename_i et i off sz st len cap hu
    refine ⟨_, e, rfl, fun α u w ty hv => ?_⟩
    cases hv; rename_i hv; cases hv
    simp [Builtin.len_, ht, run_underlying hu, goInt]
  · cases e

theorem minMax_ok {P : Program} {big : Bool} {k : IntKind} : ∀ {l : List AC} {a n : Int} {α : Nat → Loc} {vs : List Value} {w : World}, minMax big k a l = some n → ACVs α l vs →
    (vs.foldlM (if big then Builtin.max2 else Builtin.min2) (.int k a)).run P w = .ok (.int k n) w
  | [], a, n, α, vs, w, e, h => by cases e; cases h; simp
  | .one (.val (.int k' b)) :: l, a, n, α, vs, w, e, h => by
    simp only [minMax] at e
    split at e
    · rename_i hk; subst hk
      cases h with
      | cons h1 h2 =>
        cases h1; rename_i h1; cases h1
        have ih := minMax_ok (P := P) (w := w) e h2
        rw [List.foldlM_cons]
        cases big with
        | true =>
          simp only [if_true] at ih ⊢
          rw [Sem.run_bind]
          have h3 : (Builtin.max2 (.int k a) (.int k b)).run P w = .ok (.int k (cond true (cond (iLt a b) b a) (cond (iLt b a) b a))) w := by
            simp only [Builtin.max2, Sem.run_pure, cond_true, iLt_eq]
            by_cases hab : b > a
            · simp [hab]
            · have : ¬ a < b := by omega
              simp [hab]
          rw [h3]; exact ih
        | false =>
          simp only [Bool.false_eq_true, if_false] at ih ⊢
          rw [Sem.run_bind]
          have h3 : (Builtin.min2 (.int k a) (.int k b)).run P w = .ok (.int k (cond false (cond (iLt a b) b a) (cond (iLt b a) b a))) w := by
            simp only [Builtin.min2, Sem.run_pure, cond_false, iLt_eq]
            by_cases hab : b < a <;> simp [hab]
          rw [h3]; exact ih
    · cases e
  | .one (.val (.bool _)) :: l, a, n, α, vs, w, e, h => by simp [minMax] at e
  | .one (.val (.float _ _)) :: l, a, n, α, vs, w, e, h => by simp [minMax] at e
  | .one (.val (.complex _ _ _)) :: l, a, n, α, vs, w, e, h => by simp [minMax] at e
  | .one (.val (.string _)) :: l, a, n, α, vs, w, e, h => by simp [minMax] at e
  | .one (.val (.pointer _)) :: l, a, n, α, vs, w, e, h => by simp [minMax] at e
  | .one (.val (.slice _ _ _)) :: l, a, n, α, vs, w, e, h => by simp [minMax] at e
  | .one (.val (.map _)) :: l, a, n, α, vs, w, e, h => by simp [minMax] at e
  | .one (.val (.chan _)) :: l, a, n, α, vs, w, e, h => by simp [minMax] at e
  | .one (.val (.func _ _ _)) :: l, a, n, α, vs, w, e, h => by simp [minMax] at e
  | .one (.val .nilFunc) :: l, a, n, α, vs, w, e, h => by simp [minMax] at e
  | .one (.val (.iface _ _)) :: l, a, n, α, vs, w, e, h => by simp [minMax] at e
  | .one (.val .nilIface) :: l, a, n, α, vs, w, e, h => by simp [minMax] at e
  | .one (.val (.agg _)) :: l, a, n, α, vs, w, e, h => by simp [minMax] at e
  | .one (.val (.tuple _)) :: l, a, n, α, vs, w, e, h => by simp [minMax] at e
  | .one .bad :: l, a, n, α, vs, w, e, h => by simp [minMax] at e
  | .one (.ptr _ _) :: l, a, n, α, vs, w, e, h => by simp [minMax] at e
  | .one (.dptr _ _ _ _ _) :: l, a, n, α, vs, w, e, h => by simp [minMax] at e
  | .one (.gs _ _ _ _) :: l, a, n, α, vs, w, e, h => by simp [minMax] at e
  | .one (.sl _ _ _ _ _ _) :: l, a, n, α, vs, w, e, h => by simp [minMax] at e
  | .one (.fn _ _) :: l, a, n, α, vs, w, e, h => by simp [minMax] at e
  | .one (.ifc _ _) :: l, a, n, α, vs, w, e, h => by simp [minMax] at e
  | .agg _ :: l, a, n, α, vs, w, e, h => by simp [minMax] at e

theorem minMaxK_inv {β : Type} {P : Program} {big : Bool} {l : List AC} {K : AC → Option β} {r : β} (e : minMaxK big l K = some r) :
    ∃ v, K (.one (.val v)) = some r ∧ v.oneCell' = true ∧ ∀ (α : Nat → Loc) (vs : List Value) (w : World) (argTypes : Array TypeId) (ty : TypeId), ACVs α l vs → ((if big then Builtin.max_ else Builtin.min_) argTypes ty vs.toArray).run P w = .ok v w := by
  unfold minMaxK at e
  split at e
  · rename_i k a l
    obtain ⟨n, hn, e⟩ := optK_inv e
    refine ⟨_, e, rfl, fun α vs w argTypes ty hv => ?_⟩
    cases hv with
    | cons h1 h2 =>
      cases h1; rename_i h1; cases h1
      have := minMax_ok (P := P) (w := w) hn h2
      cases big <;> simpa [Builtin.max_, Builtin.min_] using this
  · cases e

/-! ### conversions -/
theorem isStrTy_inv {P : Program} {t : TypeId} (h : isStrTy P t = true) : P.underlying t = some .string := by
  unfold isStrTy at h
  split at h
  · assumption
  · cases h

theorem isByteSl_inv {P : Program} {t : TypeId} (h : isByteSl P t = true) : ∃ e i, P.underlying t = some (.slice e) ∧ P.underlying e = some (.int .u8) ∧ P.info? e = some i ∧ i.size = 1 := by
  unfold isByteSl at h
  split at h
  · rename_i e hu
    split at h
    · rename_i he
      split at h
      · rename_i i hi; exact ⟨e, i, hu, he, hi, Nat.eq_of_beq_eq_true h⟩
      · cases h
    · cases h
  · cases h

theorem mkBytes_zero (f : Nat → Int) : mkBytes 0 f = ⟨#[]⟩ := rfl

theorem foldl_bytes (f : Nat → Int) : ∀ (l : List Nat) (s : ByteArray), ((l.map f).foldl (fun r n => r.push (UInt8.ofNat n.toNat)) s) = ⟨s.data ++ (l.map fun j => UInt8.ofNat (f j).toNat).toArray⟩
  | [], s => by simp
  | j :: l, s => by
    simp only [List.map_cons, List.foldl_cons]
    rw [foldl_bytes f l]
    congr 1
    simp [ByteArray.push]

theorem Stp.heap {α α' : Nat → Loc} {h h' : Heap} {w w' w'' : World} (s : Stp α h w α' h' w') (he : w''.heap = w'.heap) (h1 : w''.os = w'.os) (h2 : w''.tape = w'.tape) (h3 : w''.output = w'.output) : Stp α h w α' h' w'' :=
  ⟨h1.trans s.os, h2.trans s.tape, h3.trans s.output, by rw [he]; exact s.size, fun k c t fz hk => by rw [he]; exact s.cells k c t fz hk, fun k hk hn => by rw [he]; exact s.frame k hk hn, s.al, s.shape, s.newb, s.fixd⟩

theorem bytesWorld_heap (w : World) (e : TypeId) (s : ByteArray) : (Lib.bytesWorld w e s).heap = (w.drew.alloc (.cells (Lib.bytesCells w e s) e ((Lib.bytesCells w e s).size, (Lib.bytesCells w e s).size + 1))).heap := by
  apply Array.ext_getElem?
  intro i
  rcases Nat.lt_trichotomy i w.heap.size with hi | hi | hi
  · rw [Lib.bytesWorld_at_old _ _ _ _ hi, heap_alloc_old (w := w.drew) (by simpa using hi)]; rfl
  · subst hi
    rw [Lib.bytesWorld_at_new]
    exact (heap_alloc_new w.drew _).symm
  · rw [Array.getElem?_eq_none (by rw [Lib.bytesWorld_size]; omega), Array.getElem?_eq_none (by show (w.heap.push _).size ≤ i; simp; omega)]

theorem toStrK_inv {β : Type} {P : Program} {h : Heap} {x : AC} {K : AC → Option β} {r : β} (e : toStrK h x K = some r) :
    ∃ v, K (.one (.val v)) = some r ∧ v.oneCell' = true ∧ ∀ (α : Nat → Loc) (u : Value) (w : World) (src dst te : TypeId), P.underlying src = some (.slice te) → P.underlying te = some (.int .u8) → P.underlying dst = some .string → ACV α x u → acWF h x → Sat α h w →
      (convert src dst u).run P w = .ok v w := by
  unfold toStrK at e
  split at e
  · rename_i hn
    have := isNilSl_inv hn
    subst this
    refine ⟨_, e, rfl, fun α u w src dst te h1 h2 h3 hv _ _ => ?_⟩
    cases hv; rename_i hv; cases hv
    rw [run_convert_bytes_string w src dst te _ _ _ h1 h2 h3]
    simp [Conv.bytesToString]; rfl
  · have main : ∀ (K' : Nat → Sq → Option β), (∀ n q, K' n q = (match q with | .ri .u8 f => K (.one (.val (.string (mkBytes n f)))) | _ => none)) → elemsK h 1 x K' = some r → (∀ α u, ACV α x u → (∃ a n c, u = .slice a n c)) →
        ∃ v, K (.one (.val v)) = some r ∧ v.oneCell' = true ∧ ∀ (α : Nat → Loc) (u : Value) (w : World) (src dst te : TypeId), P.underlying src = some (.slice te) → P.underlying te = some (.int .u8) → P.underlying dst = some .string → ACV α x u → acWF h x → Sat α h w →
          (convert src dst u).run P w = .ok v w := by
      intro K' hK' e hx
      obtain ⟨n, q, e, hq⟩ := elemsK_inv (P := P) e
      rw [hK'] at e
      split at e
      · rename_i f
        refine ⟨_, e, rfl, fun α u w src dst te h1 h2 h3 hv hw hs => ?_⟩
        have hsrc := hq α w u hw hv hs
        obtain ⟨a, m, c, rfl⟩ := hx α u hv
        rw [run_convert_bytes_string w src dst te _ _ _ h1 h2 h3]
        have hlen := hsrc.len w
        have hm : m = n := by simpa [Builtin.lenOf] using hlen
        subst hm
        have hc := hsrc.cells w rfl
        cases a with
        | none =>
          rw [run_firstCells_none] at hc
          have : m = 0 := by
            have h6 : (#[] : Array Value) = ((Sq.ri .u8 f).vals m).toArray := by simpa using hc
            have h7 : ((Sq.ri .u8 f).vals m).length = 0 := by
              have := congrArg Array.size h6; simpa using this.symm
            rw [Sq.vals_ri] at h7; simpa using h7
          subst this
          simp [Conv.bytesToString]; rfl
        | some a =>
          have hl : (loadCells a m).run P w = .ok (((List.range m).map f).map (Value.int .u8)).toArray w := by
            have h6 : (loadCells a (m * 1)).run P w = .ok ((Sq.ri .u8 f).vals m).toArray w := by simpa [Builtin.firstCells] using hc
            rw [Nat.mul_one, Sq.vals_ri] at h6
            rw [h6]; simp [Function.comp_def]
          rw [run_bytesToString w a m c _ hl, foldl_bytes]
          congr 2
          show (⟨#[] ++ _⟩ : ByteArray) = _
          rw [Array.empty_append]; rfl
      · cases e
    split at e
    · rename_i i sz st len _
      refine main _ (fun n q => rfl) e fun α u hv => ?_
      cases hv; rename_i hv; cases hv <;> exact ⟨_, _, _, rfl⟩
    · rename_i i off sz st len cap _
      refine main _ (fun n q => rfl) e fun α u hv => ?_
      cases hv; rename_i hv; cases hv; exact ⟨_, _, _, rfl⟩
    · cases e

theorem convK_inv {β : Type} {P : Program} {h : Heap} {src dst : TypeId} {x : AC} {K : KR β} {r : β} (e : convK P h src dst x K = some r) :
    ∃ y h' ws lb, K y h' ws lb = some r ∧ Prim P h y h' ws lb (fun α _ s => ∃ u, ACV α x u ∧ acWF h x ∧ s = convert src dst u) := by
  unfold convK at e
  split at e
  · rename_i hd
    have hd := isStrTy_inv hd
    split at e
    · rename_i hs
      obtain ⟨te, i, h1, h2, _, _⟩ := isByteSl_inv hs
      obtain ⟨v, e, hv, hrun⟩ := toStrK_inv (P := P) e
      refine ⟨_, _, _, _, e, .still fun α w s _ hsat hp => ?_⟩
      obtain ⟨u, g1, g2, rfl⟩ := hp
      exact ⟨v, hrun α u w src dst te h1 h2 hd g1 g2 hsat, .one (.val v hv), trivial, trivial⟩
    · split at e
      · rename_i hs
        have hs := isStrTy_inv hs
        unfold strIdK at e
        split at e
        · rename_i s
          refine ⟨_, _, _, _, e, .still fun α w sm _ hsat hp => ?_⟩
          obtain ⟨u, g1, g2, rfl⟩ := hp
          cases g1; rename_i g1; cases g1
          exact ⟨_, by simp [convert, run_underlying hs, run_underlying hd], .one (.val _ rfl), trivial, trivial⟩
        · cases e
      · cases e
  · split at e
    · rename_i hd
      obtain ⟨te, i, h1, h2, h3, h4⟩ := isByteSl_inv hd
      split at e
      · rename_i s
        obtain ⟨hs, e⟩ := ifK_inv e
        have hs := isStrTy_inv hs
        have e := newGs_inv e
        refine ⟨_, _, _, _, e, ⟨fun j _ hjl => (by rw [List.getElem?_append_left hjl]), fun hl => (by cases hl), (by simp), fun α w sm hw hsat hp => ?_⟩⟩
        obtain ⟨u, g1, g2, rfl⟩ := hp
        cases g1; rename_i g1; cases g1
        have hrun := Lib.run_convert_string_bytes (P := P) w src dst te s hs h1 h2
        have hcap : s.size ≤ grownCap w s.size 0 te := grownCap_le
        have hval : (Lib.bytesCells w te s) = ((Sq.ri .u8 (byteAt s)).vals s.size).toArray ++ Array.replicate (grownCap w s.size 0 te - s.size) (.int .u8 0) := by
          unfold Lib.bytesCells; rw [bytes_vals]
        have hvl : ((Sq.ri .u8 (byteAt s)).vals s.size).length = s.size := by rw [Sq.vals_ri]; simp
        obtain ⟨α', k1, k2, k3⟩ := gs_new (w := w.drew) (e := te) (sz := 1) (m := s.size) (cap := grownCap w s.size 0 te) (c := Lib.bytesCells w te s) (fz := ((Lib.bytesCells w te s).size, (Lib.bytesCells w te s).size + 1)) (hsat.heap rfl) hw (q := .ri .u8 (byteAt s)) Sq.ok_ri (fun j v hj => by
          rw [hval, Array.getElem?_append_left (by simpa using lt_of_get hj)]; simpa using hj) (by rw [hval]; simp [hvl]; omega) hcap (fun o ho => by omega)
        refine ⟨α', _, _, hrun, (k1.drew).heap (bytesWorld_heap w te s) ?_ ?_ ?_, k2.heap (bytesWorld_heap w te s), .ac k3, gsWF_new, heapWF_snoc hw (segWF h _ _)⟩
        · exact rfl
        · exact rfl
        · exact rfl
      · cases e
    · obtain ⟨v, e, hv, hrun⟩ := convA_inv e
      refine ⟨_, _, _, _, e, .still fun α w s _ hsat hp => ?_⟩
      obtain ⟨u, g1, g2, rfl⟩ := hp
      exact ⟨v, hrun α u w g1, .one (.val v hv), trivial, trivial⟩
end Ev

namespace Ev
open Go

/-! ## Interfaces -/
theorem mkIfc_inv {β : Type} {P : Program} {t : TypeId} {x : AC} {K : AC → Option β} {r : β} (e : mkIfc P t x K = some r) :
    ∃ y, K y = some r ∧ ∀ (α : Nat → Loc) (h : Heap) (u : Value) (w : World), ACV α x u → acWF h x → ∃ v, (Instr.makeInterface t u).run P w = .ok v w ∧ ACV α y v ∧ acWF h y := by
  unfold mkIfc at e
  split at e
  · rename_i hi
    have hu : ∃ d, P.underlying t = some d ∧ ∀ ms, d ≠ .interface ms := by
      unfold isIfcTy at hi
      split at hi
      · cases hi
      · rename_i d hd hu; exact ⟨d, hu, fun ms hms => hd ms (by rw [← hms])⟩
      · cases hi
    obtain ⟨d, hd, hni⟩ := hu
    have hrun : ∀ (u : Value) (w : World), (Instr.makeInterface t u).run P w = .ok (.iface t u) w := fun u w => by
      simp only [Instr.makeInterface, Sem.run_bind, run_underlying hd, Result.andThen_ok]
      cases d <;> first | rfl | exact absurd rfl (hni _)
    split at e
    · rename_i y
      refine ⟨_, e, fun α h u w hv hw => ⟨_, hrun u w, ?_, hw.1, trivial⟩⟩
      cases hv; rename_i hv
      exact .one (.ifc t y u hv)
    · rename_i l
      obtain ⟨vs, hvs, e⟩ := optK_inv e
      refine ⟨_, e, fun α h u w hv hw => ⟨_, hrun u w, ?_, trivial, trivial⟩⟩
      cases hv with
      | agg hv =>
        have := valsOf_ok hvs hv
        subst this
        exact .one (.val _ rfl)
  · cases e

theorem ifcK_inv {β : Type} {x : AC} {K : TypeId → AC → Option β} {r : β} (e : ifcK x K = some r) :
    ∃ t y, K t y = some r ∧ ∀ (α : Nat → Loc) (h : Heap) (v : Value), ACV α x v → acWF h x → ∃ u, v = .iface t u ∧ ACV α y u ∧ acWF h y := by
  unfold ifcK at e
  split at e
  · rename_i t y
    refine ⟨_, _, e, fun α h v hv hw => ?_⟩
    cases hv; rename_i hv
    cases hv with
    | ifc _ _ u hu => exact ⟨u, rfl, .one hu, hw.1, trivial⟩
  · rename_i t u
    obtain ⟨y, hy, e⟩ := optK_inv e
    refine ⟨_, _, e, fun α h v hv hw => ?_⟩
    cases hv; rename_i hv; cases hv
    obtain ⟨h1, h2⟩ := constA_ok hy α h
    exact ⟨u, rfl, h1, h2⟩
  · cases e

theorem assertK_inv {β : Type} {P : Program} {x : AC} {asserted : TypeId} {K : AC → Option β} {r : β} (e : assertK P x asserted K = some r) :
    ∃ y, K y = some r ∧ ∀ (α : Nat → Loc) (h : Heap) (v : Value) (w : World) (xt : TypeId), ACV α x v → acWF h x → ∃ u, (Instr.typeAssert v xt asserted false).run P w = .ok u w ∧ ACV α y u ∧ acWF h y := by
  unfold assertK at e
  split at e
  · rename_i hi
    have hu : ∃ d, P.underlying asserted = some d ∧ ∀ ms, d ≠ .interface ms := by
      unfold isIfcTy at hi
      split at hi
      · cases hi
      · rename_i d hd hu; exact ⟨d, hu, fun ms hms => hd ms (by rw [← hms])⟩
      · cases hi
    obtain ⟨d, hd, hni⟩ := hu
    obtain ⟨t, y, e2, hx⟩ := ifcK_inv e
    obtain ⟨ht, e1⟩ := ifK_inv e2
    clear e e2
    have e := e1
    clear e1
    have ht := Nat.eq_of_beq_eq_true ht
    subst ht
    refine ⟨_, e, fun α h v w xt hv hw => ?_⟩
    obtain ⟨u, rfl, h1, h2⟩ := hx α h v hv hw
    refine ⟨u, ?_, h1, h2⟩
    cases d <;> first | exact absurd rfl (hni _) | simp [Instr.typeAssert, run_underlying hd]
  · cases e

theorem methodA_ok {P : Program} {t : TypeId} {name : String} {f : FuncId} (h : methodA P t name = some f) (n : Nat) (v : Value) (w : World) : (method (n + 1) t v name).run P w = .ok (f, v) w := by
  unfold methodA at h
  split at h
  · rename_i i hi
    split at h
    · rename_i m hm
      split at h
      · rename_i hp
        have hp : m.path = #[] := by simpa using hp
        split at h
        · rename_i g pr hf
          have hr : ∀ wr, (receiverAt t (.val v) pr wr).run P w = .ok v w ∧ f = g := by
            intro wr
            split at h
            · rename_i et hu
              cases pr with
              | true => simp at h; subst h; exact ⟨by simp [receiverAt, run_underlying hu, Place.get], rfl⟩
              | false => simp at h
            · rename_i d hd hu
              cases pr with
              | true => simp at h
              | false =>
                simp at h; subst h
                refine ⟨?_, rfl⟩
                simp only [receiverAt, Sem.run_bind, run_underlying hu, Result.andThen_ok]
                cases d <;> first | exact absurd hu (hd _) | simp [Place.get]
            · cases h
          obtain ⟨_, rfl⟩ := hr none
          have hfo : (follow [] t (.val v)).run P w = .ok (t, .val v) w := by simp [follow]
          have hr' := fun wr => (hr wr).1
          simp [method, typeInfo, hi, hm, hp, hfo, hf, hr']
        · cases h
      · cases h
    · cases h
  · cases h

theorem callMethod_ok {P : Program} {t : TypeId} {name : String} {f : FuncId} (h : methodA P t name = some f) {fn : Func} (hfn : P.funcs[f]? = some fn) (hname : (fn.name == "runtime.NumGoroutine") = false) (hb : fn.body.isNone = false) (v : Value) (args : Array Value) (w : World) :
    (callMethod (.iface t v) name args).run P w = .ok (.enter f (#[v] ++ args)) w := by
  have hd : 0 < Made.depth := by decide
  have hpos : ∃ n, P.types.size + Made.depth = n + 1 := ⟨P.types.size + Made.depth - 1, by omega⟩
  obtain ⟨n, hn⟩ := hpos
  simp only [callMethod, Sem.run_bind, run_program, Result.andThen_ok, hn, methodA_ok h n v w, callFunc, hfn, hname, hb, Bool.false_eq_true, if_false, Sem.run_pure]

/-! ## Built-in functions -/
def bltS (b : Builtin) (argTypes : Array TypeId) (ty : TypeId) (args : Array Value) : Sem Value :=
  match b with
  | .len => Builtin.len_ argTypes ty args
  | .append => Builtin.append_ argTypes ty args
  | .min => Builtin.min_ argTypes ty args
  | .max => Builtin.max_ argTypes ty args
  | _ => stuck ""

theorem builtinK_inv {β : Type} {P : Program} {h : Heap} {b : Builtin} {argTypes : Array TypeId} {args : List AC} {K : KR β} {r : β} (e : builtinK P h b argTypes args K = some r) :
    (∀ ty cs (as : Array Value), builtin b argTypes ty cs as = (do pure (.value (← bltS b argTypes ty as)))) ∧
    ∃ y h' ws lb, K y h' ws lb = some r ∧ Prim P h y h' ws lb (fun α _ s => ∃ vs ty, ACVs α args vs ∧ (∀ x ∈ args, acWF h x) ∧ s = bltS b argTypes ty vs.toArray) := by
  unfold builtinK at e
  split at e
  · rename_i x
    refine ⟨fun ty cs as => rfl, ?_⟩
    obtain ⟨v, e, hv, hrun⟩ := lenK_inv (P := P) e
    refine ⟨_, _, _, _, e, .still fun α w s _ _ hp => ?_⟩
    obtain ⟨vs, ty, h1, h2, rfl⟩ := hp
    cases h1 with
    | cons h1 h3 =>
      cases h3
      exact ⟨v, hrun α _ w ty h1, .one (.val v hv), trivial, trivial⟩
  · rename_i a x
    refine ⟨fun ty cs as => rfl, ?_⟩
    obtain ⟨y, h', ws, l, e, hp⟩ := appendK_inv e
    refine ⟨_, _, _, _, e, ⟨hp.wr, hp.quiet, hp.len, fun α w s hw hs hpre => ?_⟩⟩
    obtain ⟨vs, ty, h1, h2, rfl⟩ := hpre
    cases h1 with
    | cons h1 h3 =>
      cases h3 with
      | cons h3 h4 =>
        cases h4
        exact hp.run α w _ hw hs ⟨_, _, ty, h2 _ (by simp), h2 _ (by simp), h1, h3, rfl⟩
  · refine ⟨fun ty cs as => rfl, ?_⟩
    obtain ⟨v, e, hv, hrun⟩ := minMaxK_inv (P := P) e
    refine ⟨_, _, _, _, e, .still fun α w s _ _ hp => ?_⟩
    obtain ⟨vs, ty, h1, h2, rfl⟩ := hp
    exact ⟨v, by simpa [bltS] using hrun α vs w argTypes ty h1, .one (.val v hv), trivial, trivial⟩
  · refine ⟨fun ty cs as => rfl, ?_⟩
    obtain ⟨v, e, hv, hrun⟩ := minMaxK_inv (P := P) e
    refine ⟨_, _, _, _, e, .still fun α w s _ _ hp => ?_⟩
    obtain ⟨vs, ty, h1, h2, rfl⟩ := hp
    exact ⟨v, by simpa [bltS] using hrun α vs w argTypes ty h1, .one (.val v hv), trivial, trivial⟩
  · cases e
end Ev
