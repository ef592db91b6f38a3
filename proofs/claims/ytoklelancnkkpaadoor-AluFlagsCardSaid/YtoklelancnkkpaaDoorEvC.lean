/-
  Each operation that the interpreter knows is right, for every program whose table of zero values is as reckoned (ProgOk).
-/
import Derived.Test.YtoklelancnkkpaaDoorEvB
import Derived.ChangeKeysEq
set_option autoImplicit false
set_option linter.unusedVariables false
namespace Ev
open Go

/-! ## Operators -/
theorem run_part_agg {P : Program} {w : World} {t : TypeId} {i : TypeInfo} {cs : Array Value} {off : Nat} (hi : P.info? t = some i) (ha : isAggB P t = some true) :
    (part t cs off).run P w = .ok (.agg (cs.extract off (off + i.size))) w := by
  simp [part, run_isAggB ha, run_sizeOf' hi]

theorem run_part_cell {P : Program} {w : World} {t : TypeId} {cs : Array Value} {off : Nat} {v : Value} (ha : isAggB P t = some false) (hv : cs[off]? = some v) :
    (part t cs off).run P w = .ok v w := by
  simp [part, run_isAggB ha, hv]

theorem run_part {P : Program} {α : Nat → Loc} {w : World} {t : TypeId} {l : List Seg} {off : Nat} {x : AC} {vs : List Value} (e : loadS P t l off = some x) (hv : SegsV α l vs) :
    ∃ u, (part t vs.toArray off).run P w = .ok u w ∧ ACV α x u := by
  unfold loadS at e
  split at e
  · rename_i i hi ha
    split at e
    · rename_i l' hd
      split at e
      · rename_i r hr
        cases e
        obtain ⟨h1, h2⟩ := takeS_ok hr (dropS_ok hd hv)
        refine ⟨_, run_part_agg hi ha, ?_⟩
        have : (Value.agg (vs.toArray.extract off (off + i.size))) = .agg ((vs.drop off).take i.size).toArray := by
          congr 1
          apply Array.ext'
          simp [List.take_drop]
        rw [this]; exact .agg h1
      · cases e
    · cases e
  · rename_i i hi ha
    split at e
    · rename_i y hy
      cases e
      obtain ⟨v, h1, h2⟩ := cellAt_ok hy hv
      exact ⟨v, run_part_cell ha (by simpa using h1), .one h2⟩
    · cases e
  · cases e

theorem binI_inv {β : Type} {op : BinOp} {k : IntKind} {a b : Int} {K : AV → Option β} {r : β} (e : binI op k a b K = some r) (hs : op ≠ .shl ∧ op ≠ .shr) :
    ∃ v, K (.ac (.one (.val v))) = some r ∧ v.oneCell' = true ∧ ∀ (P : Program) (t : TypeId) (w : World), (binOp op t (.int k a) (.int k b)).run P w = .ok v w := by
  cases op <;> simp only [binI] at e
  case add => exact ⟨_, e, rfl, fun P t w => by simp [binOp, Op.intArith]⟩
  case sub => exact ⟨_, e, rfl, fun P t w => by simp [binOp, Op.intArith]⟩
  case mul => exact ⟨_, e, rfl, fun P t w => by simp [binOp, Op.intArith]⟩
  case quo =>
    rcases cond_inv e with ⟨_, h⟩ | ⟨h0, h⟩
    · cases h
    · have : b ≠ 0 := by simpa using h0
      exact ⟨_, h, rfl, fun P t w => by simp [binOp, Op.intDiv, this]⟩
  case rem =>
    rcases cond_inv e with ⟨_, h⟩ | ⟨h0, h⟩
    · cases h
    · have : b ≠ 0 := by simpa using h0
      exact ⟨_, h, rfl, fun P t w => by simp [binOp, Op.intDiv, this]⟩
  case and => exact ⟨_, e, rfl, fun P t w => by simp [binOp, Op.intBits, bAnd]⟩
  case or => exact ⟨_, e, rfl, fun P t w => by simp [binOp, Op.intBits, bOr]⟩
  case xor => exact ⟨_, e, rfl, fun P t w => by simp [binOp, Op.intBits, bXor]⟩
  case andNot => exact ⟨_, e, rfl, fun P t w => by simp [binOp, Op.intBits, bAndNot]⟩
  case shl => cases e
  case shr => cases e
  case eql => exact ⟨_, e, rfl, fun P t w => by simp [binOp, Op.intCmp]⟩
  case neq => exact ⟨_, e, rfl, fun P t w => by simp [binOp, Op.intCmp]⟩
  case lss => exact ⟨_, e, rfl, fun P t w => by simp [binOp, Op.intCmp, iLt_eq]⟩
  case leq => exact ⟨_, e, rfl, fun P t w => by simp [binOp, Op.intCmp, iLe_eq]⟩
  case gtr => exact ⟨_, e, rfl, fun P t w => by simp [binOp, Op.intCmp, iLt_eq]⟩
  case geq => exact ⟨_, e, rfl, fun P t w => by simp [binOp, Op.intCmp, iLe_eq]⟩

theorem eqOp_inv {β : Type} {op : BinOp} {b : Bool} {K : AV → Option β} {r : β} (e : eqOp op b K = some r) :
    (op = .eql ∧ K (.bool b) = some r) ∨ (op = .neq ∧ K (.bool !b) = some r) := by
  cases op <;> simp only [eqOp] at e <;> first | cases e | exact .inl ⟨rfl, e⟩ | exact .inr ⟨rfl, e⟩

/-! ### equality by a type -/
theorem run_eqPtr {P : Program} {α : Nat → Loc} {x y : Cl} {b : Bool} {u v : Value} (e : eqPtr x y = some b) (hx : V α x u) (hy : V α y v) {t e' : TypeId} {d : Nat} {w : World}
    (h : P.underlying t = some (.pointer e')) : (Op.equalIn (d + 1) t u v).run P w = .ok b w := by
  simp only [Op.equalIn, Sem.run_bind, run_underlying h, Result.andThen_ok]
  cases hx <;> cases hy <;> simp only [eqPtr] at e <;> (try cases e) <;> (try rfl)
  all_goals (split at e <;> first | cases e | skip)
  all_goals (simp_all)

theorem run_eqSl {P : Program} {α : Nat → Loc} {x y : Cl} {b : Bool} {u v : Value} (e : eqSl x y = some b) (hx : V α x u) (hy : V α y v) {t e' : TypeId} {d : Nat} {w : World}
    (h : P.underlying t = some (.slice e')) : (Op.equalIn (d + 1) t u v).run P w = .ok b w := by
  simp only [Op.equalIn, Sem.run_bind, run_underlying h, Result.andThen_ok]
  cases hx <;> cases hy <;> simp only [eqSl] at e <;> (try cases e) <;> (try rfl)
  all_goals (split at e <;> first | cases e | skip)
  all_goals (simp_all)

theorem run_eqFn {P : Program} {α : Nat → Loc} {x y : Cl} {b : Bool} {u v : Value} (e : eqFn x y = some b) (hx : V α x u) (hy : V α y v) {t : TypeId} {a1 b1 : Array TypeId} {c1 : Bool} {d : Nat} {w : World}
    (h : P.underlying t = some (.func a1 b1 c1)) : (Op.equalIn (d + 1) t u v).run P w = .ok b w := by
  simp only [Op.equalIn, Sem.run_bind, run_underlying h, Result.andThen_ok]
  cases hx <;> cases hy <;> simp only [eqFn] at e <;> (try cases e) <;> (try rfl)
  all_goals (split at e <;> first | cases e | skip)
  all_goals (simp_all)

theorem run_eqIf {P : Program} {α : Nat → Loc} {x y : Cl} {b : Bool} {u v : Value} (e : eqIf x y = some b) (hx : V α x u) (hy : V α y v) {t : TypeId} {m1 : Array (String × TypeId)} {d : Nat} {w : World}
    (h : P.underlying t = some (.interface m1)) : (Op.equalIn (d + 1) t u v).run P w = .ok b w := by
  simp only [Op.equalIn, Sem.run_bind, run_underlying h, Result.andThen_ok]
  cases hx <;> cases hy <;> simp only [eqIf] at e <;> (try cases e) <;> (try rfl)
  all_goals (split at e <;> first | cases e | skip)
  all_goals (simp_all)

theorem cellsOf_eq {P : Program} {t : TypeId} {i : TypeInfo} (h : P.info? t = some i) : P.cellsOf t = i.size := by simp [Program.cellsOf, h]

theorem fieldsOf_eq {P : Program} {t : TypeId} {fs : Array Field} (h : P.underlying t = some (.struct fs)) : P.fieldsOf t = fs := by simp [Program.fieldsOf, h]

theorem andO_inv {a b : Option Bool} {r : Bool} (h : andO a b = some r) : ∃ x y, a = some x ∧ b = some y ∧ r = (x && y) := by
  cases a <;> cases b <;> simp [andO] at h
  exact ⟨_, _, rfl, rfl, h.symm⟩

theorem run_eqFieldsT {P : Program} {α : Nat → Loc} {d : Nat} {eq : TypeId → AC → AC → Option Bool}
    (ih : ∀ t x y b u v w, eq t x y = some b → ACV α x u → ACV α y v → (Op.equalIn d t u v).run P w = .ok b w)
    {l m : List Seg} {xs ys : List Value} (hx : SegsV α l xs) (hy : SegsV α m ys) : ∀ {fs : List Field} {b : Bool} (w : World), eqFieldsT eq P l m fs = some b →
    (Op.eqFields d xs.toArray ys.toArray fs).run P w = .ok b w
  | [], b, w, e => by cases e; simp [Op.eqFields]
  | f :: fs, b, w, e => by
    simp only [eqFieldsT] at e
    split at e
    · cases e
    · rename_i hname
      have hname : f.name ≠ "_" := by simpa using hname
      split at e
      · rename_i x y h1 h2
        obtain ⟨u, g1, g2⟩ := run_part (P := P) (w := w) h1 hx
        obtain ⟨v, g3, g4⟩ := run_part (P := P) (w := w) h2 hy
        simp only [Op.eqFields, hname, ne_eq, not_false_eq_true, if_true, Sem.run_bind, g1, g3, Result.andThen_ok]
        split at e
        · rw [ih _ _ _ _ _ _ w e g2 g4]
          cases b <;> simp [Op.eqFields]
        · obtain ⟨p, q, k1, k2, rfl⟩ := andO_inv e
          rw [ih _ _ _ _ _ _ w k1 g2 g4]
          have := run_eqFieldsT ih hx hy w k2
          cases p
          · simp
          · simpa using this
      · cases e

theorem run_eqElemsT {P : Program} {α : Nat → Loc} {d : Nat} {eq : AC → AC → Option Bool} {et : TypeId} {sz : Nat}
    (ih : ∀ x y b u v w, eq x y = some b → ACV α x u → ACV α y v → (Op.equalIn d et u v).run P w = .ok b w)
    {l m : List Seg} {xs ys : List Value} (hx : SegsV α l xs) (hy : SegsV α m ys) : ∀ {n i : Nat} {b : Bool} (w : World), eqElemsT eq P et sz l m n i = some b →
    (Op.eqItems d et sz xs.toArray ys.toArray (List.range' i n)).run P w = .ok b w
  | 0, i, b, w, e => by cases e; simp [Op.eqItems]
  | n + 1, i, b, w, e => by
    simp only [eqElemsT] at e
    split at e
    · rename_i x y h1 h2
      obtain ⟨u, g1, g2⟩ := run_part (P := P) (w := w) h1 hx
      obtain ⟨v, g3, g4⟩ := run_part (P := P) (w := w) h2 hy
      obtain ⟨p, q, k1, k2, rfl⟩ := andO_inv e
      have := run_eqElemsT ih hx hy w k2
      simp only [List.range'_succ, Op.eqItems, Sem.run_bind, g1, g3, Result.andThen_ok, ih _ _ _ _ _ w k1 g2 g4]
      cases p
      · simp
      · simpa using this
    · cases e

theorem run_eqInts {P : Program} {d : Nat} {e : TypeId} {k ke : IntKind} (hu : P.underlying e = some (.int ke)) {f g : Nat → Int} {n : Nat} (w : World) : ∀ {m i : Nat}, i + m ≤ n →
    (Op.eqItems (d + 1) e 1 ((List.range n).map fun j => Value.int k (f j)).toArray ((List.range n).map fun j => Value.int k (g j)).toArray (List.range' i m)).run P w = .ok ((List.range' i m).all fun j => f j == g j) w
  | 0, i, _ => by simp [Op.eqItems]
  | m + 1, i, h => by
    have hg : isAggB P e = some false := by simp [isAggB, hu]
    have p1 : ∀ f : Nat → Int, (part e ((List.range n).map fun j => Value.int k (f j)).toArray (i * 1)).run P w = .ok (.int k (f i)) w := fun f => by
      refine run_part_cell hg ?_
      have : i < n := by omega
      simp [this]
    have := run_eqInts (d := d) (k := k) (f := f) (g := g) hu w (m := m) (i := i + 1) (n := n) (by omega)
    simp only [List.range'_succ, Op.eqItems, Sem.run_bind, p1, Result.andThen_ok, run_equalIn_int w d e k ke _ _ hu]
    cases hfg : (f i == g i)
    · simp [hfg]
    · simpa [hfg] using this

theorem run_eqT {P : Program} {α : Nat → Loc} : ∀ (d : Nat) (t : TypeId) (x y : AC) (b : Bool) (u v : Value) (w : World), eqT P d t x y = some b → ACV α x u → ACV α y v → (Op.equalIn d t u v).run P w = .ok b w
  | 0, t, x, y, b, u, v, w, e, hx, hy => by simp [eqT] at e
  | d + 1, t, x, y, b, u, v, w, e, hx, hy => by
    simp only [eqT] at e
    split at e
    · rename_i hu
      split at e
      · cases e; cases hx; rename_i hx; cases hx; cases hy; rename_i hy; cases hy
        exact run_equalIn_bool w d t _ _ hu
      · cases e
    · rename_i k hu
      split at e
      · split at e
        · rename_i hk; subst hk; cases e; cases hx; rename_i hx; cases hx; cases hy; rename_i hy; cases hy
          exact run_equalIn_int w d t _ _ _ _ hu
        · cases e
      · cases e
    · rename_i hu
      split at e
      · cases e; cases hx; rename_i hx; cases hx; cases hy; rename_i hy; cases hy
        rw [run_equalIn_string w d t _ _ hu, beq_toListBytes]
      · cases e
    · rename_i fs hu
      split at e
      · split at e
        · cases e
        · rename_i hst
          cases hx; rename_i hx; cases hy; rename_i hy
          rw [run_equalIn_struct w d t _ _ (by rw [fieldsOf_eq hu]; exact hu) (by simpa using hst), fieldsOf_eq hu]
          exact run_eqFieldsT (fun t x y b u v w => run_eqT d t x y b u v w) hx hy w e
      · cases e
    · rename_i n et hu
      split at e
      · rename_i n' k f n'' k' g
        split at e
        · rename_i h1
          split at e
          · rename_i h2
            split at e
            · rename_i hk
              split at e
              · rename_i ke i hk' hi
                split at e
                · cases e
                rename_i h0
                split at e
                · rename_i h3
                  cases e
                  have h1 := Nat.eq_of_beq_eq_true h1
                  have h2 := Nat.eq_of_beq_eq_true h2
                  have h3 := Nat.eq_of_beq_eq_true h3
                  subst h1 h2 hk
                  cases hx; rename_i hx; cases hy; rename_i hy
                  cases hx with | ri hx => ?_
                  cases hx
                  cases hy with | ri hy => ?_
                  cases hy
                  rw [run_equalIn_array w d _ _ hu hi, cellsOf_eq hi, h3, List.range_eq_range']
                  cases d with
                  | zero => exact absurd rfl h0
                  | succ d => simpa [allEq, List.range_eq_range'] using run_eqInts (d := d) (k := k) (f := f) (g := g) hk' w (m := n) (i := 0) (n := n) (by omega)
                · cases e
              · cases e
            · cases e
          · cases e
        · cases e
      · rename_i l m _ 
        split at e
        · rename_i i hi
          cases hx; rename_i hx; cases hy; rename_i hy
          rw [run_equalIn_array w d _ _ hu hi, cellsOf_eq hi, List.range_eq_range']
          exact run_eqElemsT (fun x y b u v w => run_eqT d et x y b u v w) hx hy w e
        · cases e
      · cases e
    · rename_i et hu
      split at e
      · cases hx; rename_i hx; cases hy; rename_i hy; exact run_eqPtr e hx hy hu
      · cases e
    · rename_i et hu
      split at e
      · cases hx; rename_i hx; cases hy; rename_i hy; exact run_eqSl e hx hy hu
      · cases e
    · rename_i hu
      split at e
      · cases hx; rename_i hx; cases hy; rename_i hy; exact run_eqFn e hx hy hu
      · cases e
    · rename_i hu
      split at e
      · cases hx; rename_i hx; cases hy; rename_i hy; exact run_eqIf e hx hy hu
      · cases e
    · cases e

end Ev

namespace Ev
open Go

/-! ## Operators, continued -/
theorem run_eqGuard_other {P : Program} {w : World} {op : BinOp} {t : TypeId} {x y : Operand} {a b : Value} (h1 : ∀ cs ds, ¬ (a = .agg cs ∧ b = .agg ds)) (h2 : a = .nilIface → b = .nilIface → litOp x = true ∨ litOp y = true) :
    (eqGuard op t x y a b).run P w = .ok () w := by
  unfold eqGuard
  cases op <;> first
    | rfl
    | (cases a <;> cases b <;> first
        | rfl
        | exact absurd ⟨rfl, rfl⟩ (h1 _ _)
        | (rcases h2 rfl rfl with h | h
           · cases x <;> first | rfl | cases h
           · cases x <;> cases y <;> first | rfl | cases h))

theorem nilOk_ok {α : Nat → Loc} {lit : Bool} {x y : AC} {u v : Value} (h : nilOk lit x y = true) (hx : ACV α x u) (hy : ACV α y v) (hu : u = .nilIface) (hv : v = .nilIface) (h1 : ∃ a, x = .one a ∧ a ≠ .bad) (h2 : ∃ a, y = .one a ∧ a ≠ .bad) : lit = true := by
  subst hu hv
  obtain ⟨a, rfl, ha⟩ := h1
  obtain ⟨b, rfl, hb⟩ := h2
  cases hx; rename_i hx; cases hy; rename_i hy
  cases hx <;> cases hy <;> simp_all [nilOk]

theorem eqT_notBad {P : Program} : ∀ {d : Nat} {t : TypeId} {x y : Cl} {b : Bool}, eqT P d t (.one x) (.one y) = some b → x ≠ .bad ∧ y ≠ .bad
  | 0, t, x, y, b, e => by simp [eqT] at e
  | d + 1, t, x, y, b, e => by
    constructor
    · rintro rfl
      simp only [eqT] at e
      split at e <;> simp_all [eqPtr, eqSl, eqFn, eqIf]
    · rintro rfl
      simp only [eqT] at e
      split at e <;> simp_all [eqPtr, eqSl, eqFn, eqIf]

theorem binOp_eq {P : Program} {op : BinOp} {t : TypeId} {u v : Value} {w : World} {b : Bool} (he : (Op.equalIn 10000 t u v).run P w = .ok b w)
    (h : ∀ k a k' a', ¬ (u = .int k a ∧ v = .int k' a')) (hs : ∀ a a', ¬ (u = .string a ∧ v = .string a'))
    (hf : ∀ k a k' a', ¬ (u = .float k a ∧ v = .float k' a')) (hc : ∀ k a b k' a' b', ¬ (u = .complex k a b ∧ v = .complex k' a' b')) :
    (op = .eql → (binOp op t u v).run P w = .ok (.bool b) w) ∧ (op = .neq → (binOp op t u v).run P w = .ok (.bool !b) w) := by
  have he' : (Op.equal t u v).run P w = .ok b w := he
  constructor
  · rintro rfl
    cases u <;> cases v <;> first
      | (exact absurd ⟨rfl, rfl⟩ (h _ _ _ _)) | (exact absurd ⟨rfl, rfl⟩ (hs _ _)) | (exact absurd ⟨rfl, rfl⟩ (hf _ _ _ _)) | (exact absurd ⟨rfl, rfl⟩ (hc _ _ _ _ _ _))
      | (simp [binOp, he'])
  · rintro rfl
    cases u <;> cases v <;> first
      | (exact absurd ⟨rfl, rfl⟩ (h _ _ _ _)) | (exact absurd ⟨rfl, rfl⟩ (hs _ _)) | (exact absurd ⟨rfl, rfl⟩ (hf _ _ _ _)) | (exact absurd ⟨rfl, rfl⟩ (hc _ _ _ _ _ _))
      | (simp [binOp, he'])

theorem binA_inv {β : Type} {P : Program} {op : BinOp} {t : TypeId} {ox oy : Operand} {x y : AC} {K : AV → Option β} {r : β} {lit : Bool} (hlo : lit = true → litOp ox = true ∨ litOp oy = true) (e : binA P op t lit x y K = some r) :
    ∃ v, K (.ac (.one (.val v))) = some r ∧ v.oneCell' = true ∧ ∀ (α : Nat → Loc) (a b : Value) (w : World), ACV α x a → ACV α y b →
      ((do eqGuard op t ox oy a b; binOp op t a b : Sem Value)).run P w = .ok v w := by
  unfold binA at e
  split at e
  · -- two integers
    rename_i k a k' b
    have key : ∃ v, K (.ac (.one (.val v))) = some r ∧ v.oneCell' = true ∧ ∀ (w : World), (binOp op t (.int k a) (.int k' b)).run P w = .ok v w := by
      split at e
      · rcases cond_inv e with ⟨_, h⟩ | ⟨h0, h⟩
        · cases h
        · have : ¬ b < 0 := by simpa [iLt_eq] using h0
          exact ⟨_, h, rfl, fun w => by simp [binOp, Op.shift, this, iShl]⟩
      · rcases cond_inv e with ⟨_, h⟩ | ⟨h0, h⟩
        · cases h
        · have : ¬ b < 0 := by simpa [iLt_eq] using h0
          exact ⟨_, h, rfl, fun w => by simp [binOp, Op.shift, this, iShr]⟩
      · rename_i hn1 hn2
        split at e
        · rename_i hk; subst hk
          obtain ⟨v, h1, h2, h3⟩ := binI_inv e ⟨fun h => hn1 h, fun h => hn2 h⟩
          exact ⟨v, h1, h2, fun w => h3 P t w⟩
        · cases e
    obtain ⟨v, h1, h2, h3⟩ := key
    refine ⟨v, h1, h2, fun α u u' w hu hu' => ?_⟩
    cases hu; rename_i hu; cases hu; cases hu'; rename_i hu'; cases hu'
    simp only [Sem.run_bind]
    rw [run_eqGuard_other (by simp) (by simp)]
    exact h3 w
  · -- two strings
    rename_i a b
    rcases eqOp_inv e with ⟨rfl, h⟩ | ⟨rfl, h⟩
    · refine ⟨_, h, rfl, fun α u u' w hu hu' => ?_⟩
      cases hu; rename_i hu; cases hu; cases hu'; rename_i hu'; cases hu'
      simp only [Sem.run_bind]
      rw [run_eqGuard_other (by simp) (by simp)]
      simp [binOp, Op.stringOp]
    · refine ⟨_, h, rfl, fun α u u' w hu hu' => ?_⟩
      cases hu; rename_i hu; cases hu; cases hu'; rename_i hu'; cases hu'
      simp only [Sem.run_bind]
      rw [run_eqGuard_other (by simp) (by simp)]
      simp [binOp, Op.stringOp]
  · -- aggregates
    rename_i l m
    split at e
    · cases e
    · rename_i hg
      have hg : P.eqGuardType P.depth t = false := by simpa using hg
      obtain ⟨b, hb, e⟩ := optK_inv e
      rcases eqOp_inv e with ⟨rfl, h⟩ | ⟨rfl, h⟩
      · refine ⟨_, h, rfl, fun α u u' w hu hu' => ?_⟩
        have hr := run_eqT 10000 t _ _ _ _ _ w hb hu hu'
        cases hu; rename_i hu; cases hu'; rename_i hu'
        simp only [Sem.run_bind]
        rw [run_eqGuard_agg w _ _ _ _ _ _ hg]
        exact (binOp_eq hr (by simp) (by simp) (by simp) (by simp)).1 rfl
      · refine ⟨_, h, rfl, fun α u u' w hu hu' => ?_⟩
        have hr := run_eqT 10000 t _ _ _ _ _ w hb hu hu'
        cases hu; rename_i hu; cases hu'; rename_i hu'
        simp only [Sem.run_bind]
        rw [run_eqGuard_agg w _ _ _ _ _ _ hg]
        exact (binOp_eq hr (by simp) (by simp) (by simp) (by simp)).2 rfl
  · rename_i n1 n2 n3
    split at e
    · rename_i hlit
      obtain ⟨b, hb, e2⟩ := optK_inv e
      -- both are cells
      have hones : (∃ a, x = .one a) ∧ (∃ a, y = .one a) := by
        cases x with
        | one x => cases y with
          | one y => exact ⟨⟨x, rfl⟩, ⟨y, rfl⟩⟩
          | agg m => simp only [eqT] at hb; split at hb <;> simp_all
        | agg l => cases y with
          | one y => simp only [eqT] at hb; split at hb <;> simp_all
          | agg m => exact absurd rfl (n3 l m rfl)
      obtain ⟨⟨x, rfl⟩, ⟨y, rfl⟩⟩ := hones
      have hnb := eqT_notBad hb
      have key : ∀ (α : Nat → Loc) (u u' : Value) (w : World), ACV α (.one x) u → ACV α (.one y) u' →
          (eqGuard op t ox oy u u').run P w = .ok () w ∧ (Op.equalIn 10000 t u u').run P w = .ok b w ∧ (∀ k a k' a', ¬ (u = .int k a ∧ u' = .int k' a')) ∧ (∀ a a', ¬ (u = .string a ∧ u' = .string a')) ∧
          (∀ k a k' a', ¬ (u = .float k a ∧ u' = .float k' a')) ∧ (∀ k a b k' a' b', ¬ (u = .complex k a b ∧ u' = .complex k' a' b')) := by
        intro α u u' w hu hu'
        have hr := run_eqT 10000 t _ _ _ _ _ w hb hu hu'
        refine ⟨run_eqGuard_other ?_ ?_, hr, ?_⟩
        · rintro cs ds ⟨rfl, rfl⟩
          cases hu; rename_i hu; have := hu.one; simp [Value.oneCell'] at this
        · intro h1 h2
          have := nilOk_ok hlit hu hu' h1 h2 ⟨x, rfl, hnb.1⟩ ⟨y, rfl, hnb.2⟩
          exact hlo this
        · cases hu; rename_i hu; cases hu'; rename_i hu'
          refine ⟨?_, ?_, ?_, ?_⟩
          · rintro k a k' a' ⟨rfl, rfl⟩
            cases hu <;> cases hu' <;> first | exact n1 _ _ _ _ rfl rfl | exact hnb.1 rfl | exact hnb.2 rfl
          · rintro a a' ⟨rfl, rfl⟩
            cases hu <;> cases hu' <;> first | exact n2 _ _ rfl rfl | exact hnb.1 rfl | exact hnb.2 rfl
          · rintro k a k' a' ⟨rfl, rfl⟩
            cases hu <;> cases hu' <;> simp only [eqT] at hb <;> split at hb <;> simp_all [eqPtr, eqSl, eqFn, eqIf]
          · rintro k a b k' a' b' ⟨rfl, rfl⟩
            cases hu <;> cases hu' <;> simp only [eqT] at hb <;> split at hb <;> simp_all [eqPtr, eqSl, eqFn, eqIf]
      rcases eqOp_inv e2 with ⟨rfl, h⟩ | ⟨rfl, h⟩
      · refine ⟨_, h, rfl, fun α u u' w hu hu' => ?_⟩
        obtain ⟨k1, k2, k3, k4, k5, k6⟩ := key α u u' w hu hu'
        simp only [Sem.run_bind, k1, Result.andThen_ok]
        exact (binOp_eq k2 k3 k4 k5 k6).1 rfl
      · refine ⟨_, h, rfl, fun α u u' w hu hu' => ?_⟩
        obtain ⟨k1, k2, k3, k4, k5, k6⟩ := key α u u' w hu hu'
        simp only [Sem.run_bind, k1, Result.andThen_ok]
        exact (binOp_eq k2 k3 k4 k5 k6).2 rfl
    · cases e

theorem unA_inv {β : Type} {op : UnOp} {x : AC} {K : AV → Option β} {r : β} (e : unA op x K = some r) :
    ∃ v, K (.ac (.one (.val v))) = some r ∧ v.oneCell' = true ∧ ∀ (P : Program) (α : Nat → Loc) (a : Value) (w : World), ACV α x a → (Op.unary op a).run P w = .ok v w := by
  unfold unA at e
  split at e
  · refine ⟨_, e, rfl, fun P α a w hx => ?_⟩
    cases hx; rename_i hx; cases hx; simp [Op.unary, Op.intArith]
  · refine ⟨_, e, rfl, fun P α a w hx => ?_⟩
    cases hx; rename_i hx; cases hx; simp [Op.unary, Op.intBits, bXor]
  · refine ⟨_, e, rfl, fun P α a w hx => ?_⟩
    cases hx; rename_i hx; cases hx; simp [Op.unary]
  · cases e

theorem convA_inv {β : Type} {P : Program} {src dst : TypeId} {x : AC} {K : AV → Option β} {r : β} (e : convA P src dst x K = some r) :
    ∃ v, K (.ac (.one (.val v))) = some r ∧ v.oneCell' = true ∧ ∀ (α : Nat → Loc) (a : Value) (w : World), ACV α x a → (convert src dst a).run P w = .ok v w := by
  unfold convA at e
  split at e
  · rename_i k1 k2 k3 n h1 h2
    refine ⟨_, e, rfl, fun α a w hx => ?_⟩
    cases hx; rename_i hx; cases hx
    simp [convert, run_underlying h1, run_underlying h2, Conv.intToInt]
  · cases e

/-! ## struct and array literals -/
theorem fold_splice (u : List Value) : ∀ (off j : Nat) (cells : Array Value), off + j + u.length ≤ cells.size →
    ((u.zipIdx j).foldl (fun (cs : Array Value) (p : Value × Nat) => cs.setIfInBounds (off + p.2) p.1) cells).toList = cells.toList.take (off + j) ++ u ++ cells.toList.drop (off + j + u.length) := by
  induction u with
  | nil => intro off j cells h; simp
  | cons v u ih =>
    intro off j cells h
    simp only [List.zipIdx_cons, List.foldl_cons]
    rw [ih off (j + 1) _ (by simp at h ⊢; omega)]
    simp only [Array.toList_setIfInBounds]
    have hl : off + j < cells.toList.length := by simp at h ⊢; omega
    apply List.ext_getElem?
    intro q
    have h1 : off + (j + 1) + u.length ≤ (cells.toList.set (off + j) v).length := by simp at h ⊢; omega
    have h2 : off + j + (v :: u).length ≤ cells.toList.length := by simpa using h
    rw [splice_get h1, splice_get h2]
    simp only [List.length_cons]
    by_cases c1 : q < off + j
    · rw [if_pos (by omega), if_pos c1, List.getElem?_set_ne (by omega)]
    · rw [if_neg c1]
      by_cases c2 : q = off + j
      · subst c2
        rw [if_pos (by omega), if_pos (by omega), List.getElem?_set, if_pos rfl, if_pos hl]
        simp
      · rw [if_neg (by omega)]
        by_cases c3 : q < off + j + (u.length + 1)
        · rw [if_pos (by omega), if_pos c3]
          obtain ⟨m, hm⟩ : ∃ m, q - (off + j) = m + 1 := ⟨q - (off + j) - 1, by omega⟩
          rw [hm, show q - (off + (j + 1)) = m by omega]; simp
        · rw [if_neg (by omega), if_neg c3, List.getElem?_set_ne (by omega)]

inductive PartsV (α : Nat → Loc) : List (Nat × AC) → List (Nat × Value) → Prop where
  | nil : PartsV α [] []
  | cons {i : Nat} {y : AC} {v : Value} {l : List (Nat × AC)} {vs : List (Nat × Value)} : ACV α y v → PartsV α l vs → PartsV α ((i, y) :: l) ((i, v) :: vs)

theorem fill_ok {α : Nat → Loc} {place : Nat → Option (Nat × Nat)} : ∀ {ps : List (Nat × AC)} {vs : List (Nat × Value)} {l l' : List Seg} {cells : Array Value}, setParts place ps l = some l' →
    PartsV α ps vs → SegsV α l cells.toList → ∃ cells', Instr.fill place cells vs = some cells' ∧ SegsV α l' cells'.toList
  | [], vs, l, l', cells, e, hp, hl => by cases e; cases hp; exact ⟨cells, rfl, hl⟩
  | (i, y) :: ps, vs, l, l', cells, e, hp, hl => by
    cases hp with
    | @cons _ _ v _ vs' hy h2 =>
      simp only [setParts] at e
      split at e
      · rename_i off size hpl
        split at e
        · rename_i hsz
          have hsz := Nat.eq_of_beq_eq_true hsz
          split at e
          · rename_i l1 hl1
            obtain ⟨g1, g2⟩ := storeS_ok hl1 hy hl
            have hvl : v.cells.toList.length = size := by rw [hy.cells.len, hsz]
            have hvs : v.cells.size = size := by simpa using hvl
            have hroom : ¬ (off + v.cells.size > cells.size) := by simp at g2; omega
            have hf := fold_splice v.cells.toList off 0 cells (by simpa using g2)
            obtain ⟨cells', k1, k2⟩ := fill_ok (cells := v.cells.zipIdx.foldl (fun cs (c, j) => cs.setIfInBounds (off + j) c) cells) e h2 (by
              rw [← Array.foldl_toList, Array.toList_zipIdx]
              have : (List.foldl (fun (cs : Array Value) (x : Value × Nat) => match x with | (c, j) => cs.setIfInBounds (off + j) c) cells (v.cells.toList.zipIdx)) =
                (v.cells.toList.zipIdx.foldl (fun (cs : Array Value) (p : Value × Nat) => cs.setIfInBounds (off + p.2) p.1) cells) := rfl
              rw [this, hf]
              simpa using g1)
            refine ⟨cells', ?_, k2⟩
            simp only [Instr.fill, hpl, hvs]
            simp [show ¬ cells.size < off + size by omega]
            simpa using k1
          · cases e
        · cases e
      · cases e

end Ev

namespace Ev
open Go

theorem partsK_inv {β : Type} {C : Cfg} {fr : Fr} : ∀ {ps : List (Nat × Operand)} {K : List (Nat × AC) → Option β} {r : β}, partsK C fr ps K = some r →
    ∃ l, K l = some r ∧ ∀ {xs : List Operand} {h : Heap} {α : Nat → Loc} {w : World} {a : Act}, Hyp C xs fr h α w a → (∀ p ∈ ps, p.2 ∈ xs) →
      PartsV α l (ps.map fun p => (p.1, a.eval p.2)) ∧ ∀ p ∈ l, acWF h p.2
  | [], K, r, e => ⟨[], e, fun _ _ => ⟨.nil, fun _ hp => by cases hp⟩⟩
  | (i, x) :: ps, K, r, e => by
    obtain ⟨y, h1, e1⟩ := evalC_inv e
    obtain ⟨l, h2, h3⟩ := partsK_inv e1
    refine ⟨(i, y) :: l, h2, fun H hm => ?_⟩
    obtain ⟨k1, k2⟩ := h1.okC H (hm (i, x) (by simp))
    obtain ⟨k3, k4⟩ := h3 H (fun p hp => hm p (by simp [hp]))
    exact ⟨.cons k1 k3, fun p hp => by rcases List.mem_cons.1 hp with rfl | hp; exact k2; exact k4 p hp⟩

theorem places_ok {P : Program} : ∀ {fs : List Field}, (∀ f ∈ fs, (P.info? f.type).isSome = true) → ∃ places, fs.mapM (fun f => (P.info? f.type).map fun i => (f.offset, i.size)) = some places ∧
    ∀ (i : Nat), places[i]? = (fs[i]?).bind fun (f : Field) => (P.info? f.type).map fun j => (f.offset, j.size)
  | [], _ => ⟨[], by simp, fun i => by simp⟩
  | f :: fs, h => by
    obtain ⟨ps, h1, h2⟩ := places_ok (P := P) (fs := fs) fun g hg => h g (by simp [hg])
    obtain ⟨j, hj⟩ := Option.isSome_iff_exists.1 (h f (by simp))
    refine ⟨(f.offset, j.size) :: ps, by simp [List.mapM_cons, hj, h1], fun i => ?_⟩
    cases i with
    | zero => simp [hj]
    | succ i => simpa using h2 i

theorem setParts_WF {h : Heap} {place : Nat → Option (Nat × Nat)} : ∀ {ps : List (Nat × AC)} {l l' : List Seg}, setParts place ps l = some l' → (∀ p ∈ ps, acWF h p.2) → segsWF h l → segsWF h l'
  | [], l, l', e, _, hl => by cases e; exact hl
  | (i, y) :: ps, l, l', e, hp, hl => by
    simp only [setParts] at e
    split at e
    · split at e
      · split at e
        · rename_i l1 hl1
          exact setParts_WF e (fun p hp' => hp p (by simp [hp'])) (storeS_WF hl1 hl (hp (i, y) (by simp)))
        · cases e
      · cases e
    · cases e

theorem segsWF_reps {h : Heap} {l : List Seg} (hl : segsWF h l) : ∀ n, segsWF h (reps l n)
  | 0 => trivial
  | n + 1 => segsWF_append.2 ⟨hl, segsWF_reps hl n⟩

theorem zeroGo_vals {h : Heap} {z : TypeId → Option (List Seg)} (hz : ∀ t l, z t = some l → segsWF h l) : ∀ {fs : List Field} {l : List Seg}, zeroS.go z fs = some l → segsWF h l
  | [], l, e => by cases e; trivial
  | f :: fs, l, e => by
    simp only [zeroS.go] at e
    split at e
    · rename_i a b ha hb
      cases e
      exact segsWF_append.2 ⟨hz _ _ ha, zeroGo_vals hz hb⟩
    · cases e

theorem zeroS_vals {P : Program} {h : Heap} : ∀ {d : Nat} {t : TypeId} {l : List Seg}, zeroS P d t = some l → segsWF h l
  | 0, t, l, e => by simp [zeroS] at e
  | d + 1, t, l, e => by
    simp only [zeroS] at e
    split at e
    · cases e; exact ⟨trivial, trivial⟩
    · cases e; exact ⟨trivial, trivial⟩
    · cases e; exact ⟨trivial, trivial⟩
    · cases e; exact ⟨trivial, trivial⟩
    · cases e; exact ⟨trivial, trivial⟩
    · cases e; exact ⟨trivial, trivial⟩
    · cases e; exact ⟨trivial, trivial⟩
    · split at e
      · cases e; trivial
      · split at e
        · rename_i l0 h0
          cases e
          exact segsWF_reps (zeroS_vals h0) _
        · cases e
    · exact zeroGo_vals (fun t l => zeroS_vals) e
    · cases e

theorem zeroA_WF {P : Program} {h : Heap} {t : TypeId} {z : AC} (e : zeroA P t = some z) : acWF h z := by
  unfold zeroA at e
  have e : zeroA0 P t = some z := by
    split at e
    · exact e
    · cases e
  unfold zeroA0 at e
  split at e
  · rename_i l h1 _; cases e; exact zeroS_vals h1
  · rename_i x h1 _; cases e; exact zeroS_vals (l := [.c x]) h1
  · cases e

theorem buildK_inv {β : Type} {P : Program} (hz : ZeroOk P) {t : TypeId} {ps : List (Nat × AC)} {K : AC → Option β} {r : β} (e : buildK P t ps K = some r) :
    ∃ x, K x = some r ∧ ∀ (α : Nat → Loc) (h : Heap) (w : World) (vs : List (Nat × Value)), PartsV α ps vs → (∀ p ∈ ps, acWF h p.2) → ∃ u, (Instr.build t vs.toArray).run P w = .ok u w ∧ ACV α x u ∧ acWF h x := by
  unfold buildK at e
  split at e
  · rename_i z fs hzero hu
    obtain ⟨hall, e⟩ := ifK_inv e
    obtain ⟨l, hl, e⟩ := optK_inv e
    refine ⟨_, e, fun α h w vs hp hw => ?_⟩
    obtain ⟨i, v, hi, hv, hzv⟩ := hz t _ hzero
    have hzv := hzv α
    cases hzv with
    | @agg _ zs hzs =>
      obtain ⟨places, p1, p2⟩ := places_ok (P := P) (fs := fs.toList) (fun f hf => allB_ok hall f hf)
      have hplace : (fun i => places.toArray[i]?) = placeOf P fs := by
        funext i
        have := p2 i
        simp only [List.getElem?_toArray, this, placeOf, Array.getElem?_toList]
        cases fs[i]? with
        | none => rfl
        | some f => simp only [Option.bind_some]; cases P.info? f.type <;> rfl
      obtain ⟨cells', k1, k2⟩ := fill_ok (cells := zs.toArray) hl hp (by simpa using hzs)
      refine ⟨.agg cells', run_build w t vs.toArray cells' ?_, ?_, setParts_WF hl hw (zeroA_WF hzero)⟩
      · unfold Program.built
        simp only [hi, hu, hv, p1]
        rw [hplace]
        simpa [Value.cells] using k1
      · have := ACV.agg k2; simpa using this
  · rename_i z n et hzero hu
    obtain ⟨j, hj, e⟩ := optK_inv e
    obtain ⟨l, hl, e⟩ := optK_inv e
    refine ⟨_, e, fun α h w vs hp hw => ?_⟩
    obtain ⟨i, v, hi, hv, hzv⟩ := hz t _ hzero
    have hzv := hzv α
    cases hzv with
    | @agg _ zs hzs =>
      obtain ⟨cells', k1, k2⟩ := fill_ok (cells := zs.toArray) hl hp (by simpa using hzs)
      refine ⟨.agg cells', run_build w t vs.toArray cells' ?_, ?_, setParts_WF hl hw (zeroA_WF hzero)⟩
      · unfold Program.built
        simp only [hi, hu, hv, hj]
        simpa [Value.cells] using k1
      · have := ACV.agg k2; simpa using this
  · cases e

/-! ## Addresses -/
theorem run_partD {P : Program} {α : Nat → Loc} {w : World} {t : TypeId} {l : List Seg} {o idx sz fo : Nat} {x : AC} {vs : List Value} (e : loadD P t l o idx sz fo = some x) (hv : SegsV α l vs)
    (hn : ∀ m, arrLen l o = some m → idx < m) : ∃ u, (part t vs.toArray (o + idx * sz + fo)).run P w = .ok u w ∧ ACV α x u := by
  -- a world whose block 0 holds the cells: a load there is a part here
  have h1 : ∀ (a : Addr) (wr : World), True := fun _ _ => trivial
  unfold loadD at e
  split at e
  · rename_i n k f hs
    have hidx := hn n (by simp [arrLen, hs])
    obtain ⟨a, b, ha, hl, hd⟩ := segAt_ok hs hv
    cases ha with
    | ri hnil =>
      cases hnil
      split at e
      · rename_i i hg hi
        split at e
        · rename_i hsz
          split at e
          · rename_i hfo
            cases e
            have hsz := Nat.eq_of_beq_eq_true hsz
            have hfo := Nat.eq_of_beq_eq_true hfo
            subst hsz hfo
            refine ⟨.int k (f idx), run_part_cell hg ?_, .one (.val _ rfl)⟩
            rw [Nat.mul_one, Nat.add_zero]
            simp only [List.getElem?_toArray]
            rw [← List.getElem?_drop, hd, List.getElem?_append_left (by simpa using hidx)]
            simp [hidx]
          · cases e
        · cases e
      · cases e
  · rename_i n sz' f hs
    have hidx := hn n (by simp [arrLen, hs])
    obtain ⟨a, b, ha, hl, hd⟩ := segAt_ok hs hv
    cases ha with
    | r hf hnil =>
      cases hnil
      split at e
      · rename_i hsz
        have hsz := Nat.eq_of_beq_eq_true hsz
        subst hsz
        have hrow : ∀ j, j < sz → vs[o + (idx * sz + j)]? = (f idx)[j]? := fun j hj => by
          rw [← List.getElem?_drop, hd, List.append_nil, List.getElem?_append_left]
          · exact flatMap_get (fun j hj => (hf j hj).1) idx j hidx hj
          · rw [flatMap_length (fun j hj => (hf j hj).1)]
            have : (idx + 1) * sz ≤ n * sz := Nat.mul_le_mul_right _ hidx
            rw [Nat.succ_mul] at this; omega
        have hlen : (f idx).length = sz := (hf idx hidx).1
        unfold loadE at e
        split at e
        · rename_i i hi ha
          simp only at e
          split at e
          · rename_i hb
            cases e
            have hb := Nat.eq_of_beq_eq_true hb
            refine ⟨_, run_part_agg hi ha, ?_⟩
            have hag := ACV.agg (α := α) (valsV (α := α) (l := ((f idx).drop fo).take i.size) fun u hu => (hf idx hidx).2 u (List.mem_of_mem_drop (List.mem_of_mem_take hu)))
            have : (Value.agg (vs.toArray.extract (o + idx * sz + fo) (o + idx * sz + fo + i.size))) = .agg (((f idx).drop fo).take i.size).toArray := by
              congr 1
              apply Array.ext'
              simp only [Array.toList_extract]
              rw [List.extract_eq_take_drop]
              apply List.ext_getElem?
              intro q
              rw [List.getElem?_take, List.getElem?_take]
              have e0 : o + idx * sz + fo + i.size - (o + idx * sz + fo) = i.size := by omega
              rw [e0]
              by_cases hq : q < i.size
              · rw [if_pos hq, if_pos hq, List.getElem?_drop, List.getElem?_drop]
                have hl2 : (((f idx).drop fo).take i.size).length = i.size := hb
                simp at hl2
                rw [show o + idx * sz + fo + q = o + (idx * sz + (fo + q)) by omega]
                exact hrow _ (by omega)
              · rw [if_neg hq, if_neg hq]
            rw [this]; exact hag
          · cases e
        · rename_i i hi ha
          split at e
          · rename_i y hy
            cases e
            have hfo : fo < sz := by have := lt_of_get hy; omega
            refine ⟨y, run_part_cell ha ?_, .one (.val _ ((hf idx hidx).2 y (List.mem_of_getElem? hy)))⟩
            simp only [List.getElem?_toArray]
            rw [show o + idx * sz + fo = o + (idx * sz + fo) by omega, hrow fo hfo]; exact hy
          · cases e
        · cases e
      · cases e
  · exact run_part e hv

theorem fieldK_inv {β : Type} {P : Program} {s : TypeId} {f : Nat} {K : Field → Option β} {r : β} (e : fieldK P s f K = some r) :
    ∃ fs fd, P.underlying s = some (.struct fs) ∧ fs[f]? = some fd ∧ K fd = some r := by
  unfold fieldK at e
  split at e
  · rename_i fs hu
    obtain ⟨fd, h1, h2⟩ := optK_inv e
    exact ⟨fs, fd, hu, h1, h2⟩
  · cases e

theorem fieldAddrK_inv {β : Type} {P : Program} {s : TypeId} {f : Nat} {fs : Array Field} {fd : Field} (hu : P.underlying s = some (.struct fs)) (hf : fs[f]? = some fd) {a : AC} {K : AC → Option β} {r : β}
    (e : fieldAddrK P fd a K = some r) : ∃ x, K x = some r ∧ ∀ (α : Nat → Loc) (h : Heap) (w : World) (v : Value), ACV α a v → acWF h a → ∃ u, (Instr.fieldAt s v f).run P w = .ok u w ∧ ACV α x u ∧ acWF h x := by
  unfold fieldAddrK at e
  obtain ⟨i, hi, e1⟩ := optK_inv e
  obtain ⟨hne, e2⟩ := ifK_inv e1
  have hne : i.size ≠ 0 := fun h0 => by rw [h0] at hne; simp at hne
  clear e e1
  split at e2
  · rename_i j off
    refine ⟨_, e2, fun α h w v hv hw => ?_⟩
    cases hv; rename_i hv; cases hv
    refine ⟨.pointer (some ⟨(α j).b, (α j).o + (off + fd.offset), none⟩), ?_, .one (.ptr j _), hw⟩
    simp [Instr.fieldAt, run_underlying hu, hf, Instr.sureAddr, fieldPlace, run_sizeOf' hi, hne, addr_add, Nat.add_assoc]
  · rename_i j off idx sz fo
    refine ⟨_, e2, fun α h w v hv hw => ?_⟩
    cases hv; rename_i hv; cases hv
    refine ⟨.pointer (some ⟨(α j).b, (α j).o + (off + idx * sz + (fo + fd.offset)), none⟩), ?_, .one (.dptr j off idx sz _), hw⟩
    simp [Instr.fieldAt, run_underlying hu, hf, Instr.sureAddr, fieldPlace, run_sizeOf' hi, hne, addr_add, Nat.add_assoc]
  · cases e2

theorem intK_inv {β : Type} {x : AC} {K : Int → Option β} {r : β} (e : intK x K = some r) : ∃ k n, x = .one (.val (.int k n)) ∧ K n = some r := by
  unfold intK at e
  split at e
  · exact ⟨_, _, rfl, e⟩
  · cases e

theorem boolK_inv {β : Type} {x : AC} {K : Bool → Option β} {r : β} (e : boolK x K = some r) : ∃ b, x = .one (.val (.bool b)) ∧ K b = some r := by
  unfold boolK at e
  split at e
  · exact ⟨_, rfl, e⟩
  · cases e

theorem indexAddrK_inv {β : Type} {P : Program} {h : Heap} {t : TypeId} {a : AC} {n : Int} {K : AC → Option β} {r : β} (e : indexAddrK P h t a n K = some r) :
    ∃ x, K x = some r ∧ ∀ (α : Nat → Loc) (w : World) (v : Value) (k : IntKind), ACV α a v → acWF h a → ∃ u, (Instr.indexAt t v (.int k n)).run P w = .ok u w ∧ ACV α x u ∧ acWF h x := by
  unfold indexAddrK at e
  split at e
  · rename_i len et i off hu
    obtain ⟨ei, hei, e1⟩ := optK_inv e
    obtain ⟨b, hb, e2⟩ := getK_inv e1
    obtain ⟨hlen, e3⟩ := ifK_inv e2
    rcases cond_inv e3 with ⟨hin, e4⟩ | ⟨_, e4⟩
    · have hin : 0 ≤ n ∧ n < len := by simpa [inB] using hin
      refine ⟨_, e4, fun α w v k hv hw => ?_⟩
      cases hv; rename_i hv; cases hv
      refine ⟨.pointer (some ⟨(α i).b, (α i).o + (off + n.toNat * ei.size + 0), none⟩), ?_, .one (.dptr i off _ _ 0), ⟨b, hb, fun m hm => ?_⟩, trivial⟩
      · simp [Instr.indexAt, asIntOf, run_underlying hu, Instr.sureAddr, hin, run_sizeOf' hei, addr_add, Nat.add_assoc]
      · simp only [lenOk, hm] at hlen
        have := Nat.le_of_ble_eq_true hlen
        omega
    · cases e4
  · rename_i len et i off idx sz fo hu
    obtain ⟨ei, hei, e1⟩ := optK_inv e
    rcases cond_inv e1 with ⟨hin, e4⟩ | ⟨_, e4⟩
    · have hin : 0 ≤ n ∧ n < len := by simpa [inB] using hin
      refine ⟨_, e4, fun α w v k hv hw => ?_⟩
      obtain ⟨⟨b, hb, hx⟩, _⟩ := hw
      cases hv; rename_i hv; cases hv
      refine ⟨.pointer (some ⟨(α i).b, (α i).o + (off + idx * sz + (fo + n.toNat * ei.size)), none⟩), ?_, .one (.dptr i off idx sz _), ⟨b, hb, hx⟩, trivial⟩
      simp [Instr.indexAt, asIntOf, run_underlying hu, Instr.sureAddr, hin, run_sizeOf' hei, addr_add, Nat.add_assoc]
    · cases e4
  · rename_i et i sz st len hu
    obtain ⟨ei, hei, e1⟩ := optK_inv e
    obtain ⟨hsz, e2⟩ := ifK_inv e1
    have hsz := Nat.eq_of_beq_eq_true hsz
    subst hsz
    rcases cond_inv e2 with ⟨hin, e3⟩ | ⟨_, e3⟩
    · have hin : 0 ≤ n ∧ n < len := by simpa [inB] using hin
      refine ⟨_, e3, fun α w v k hv hw => ?_⟩
      obtain ⟨⟨b, hb, he, hn⟩, _⟩ := hw
      cases hv; rename_i hv
      cases hv with
      | gsNil => exfalso; have := hin.2; have := hin.1; simp at *; omega
      | gs _ _ _ _ ad h1 h2 h3 h4 =>
        have h5 : ad = ⟨(α i).b, (α i).o + st * ei.size, none⟩ := by
          rcases h4 with h4 | h4
          · exfalso; omega
          · exact h4
        subst h5
        refine ⟨.pointer (some ⟨(α i).b, (α i).o + (0 + (st + n.toNat) * ei.size + 0), none⟩), ?_, .one (.dptr i 0 _ _ 0), ⟨b, hb, fun m hm => ?_⟩, trivial⟩
        · simp [Instr.indexAt, asIntOf, run_underlying hu, hin, run_sizeOf' hei, addr_add, Nat.add_assoc, Nat.add_mul]
        · have := hn m hm; omega
    · cases e3
  · rename_i et i off sz st len cap hu
    obtain ⟨ei, hei, e1⟩ := optK_inv e
    obtain ⟨hsz, e2⟩ := ifK_inv e1
    have hsz := Nat.eq_of_beq_eq_true hsz
    subst hsz
    rcases cond_inv e2 with ⟨hin, e3⟩ | ⟨_, e3⟩
    · have hin : 0 ≤ n ∧ n < len := by simpa [inB] using hin
      refine ⟨_, e3, fun α w v k hv hw => ?_⟩
      obtain ⟨⟨b, hb, hn⟩, _⟩ := hw
      cases hv; rename_i hv
      cases hv with
      | sl _ _ _ _ _ _ ad h1 h2 h3 =>
        have h5 : ad = ⟨(α i).b, (α i).o + (off + st * ei.size), none⟩ := by
          rcases h3 with h3 | h3
          · exfalso; omega
          · exact h3
        subst h5
        refine ⟨.pointer (some ⟨(α i).b, (α i).o + (off + (st + n.toNat) * ei.size + 0), none⟩), ?_, .one (.dptr i off _ _ 0), ⟨b, hb, fun m hm => ?_⟩, trivial⟩
        · simp [Instr.indexAt, asIntOf, run_underlying hu, hin, run_sizeOf' hei, addr_add, Nat.add_assoc, Nat.add_mul]
        · have := hn m hm; omega
    · cases e3
  · cases e

theorem indexK_inv {β : Type} {P : Program} {t : TypeId} {a : AC} {n : Int} {K : AC → Option β} {r : β} (e : indexK P t a n K = some r) :
    ∃ x, K x = some r ∧ ∀ (α : Nat → Loc) (h : Heap) (w : World) (v : Value) (k : IntKind), ACV α a v → acWF h a → ∃ u, (Instr.index t v (.int k n)).run P w = .ok u w ∧ ACV α x u ∧ acWF h x := by
  unfold indexK at e
  split at e
  · rename_i len et l hu
    obtain ⟨ei, hei, e1⟩ := optK_inv e
    obtain ⟨hlen, e1⟩ := ifK_inv e1
    rcases cond_inv e1 with ⟨hin, e2⟩ | ⟨_, e2⟩
    · have hin : 0 ≤ n ∧ n < len := by simpa [inB] using hin
      obtain ⟨x, hx, e3⟩ := optK_inv e2
      refine ⟨_, e3, fun α h w v k hv hw => ?_⟩
      cases hv with
      | @agg _ vs hv =>
        have hn : ∀ m, arrLen l 0 = some m → n.toNat < m := fun m hm => by
          simp only [lenOk, hm] at hlen
          have := Nat.le_of_ble_eq_true hlen
          omega
        obtain ⟨u, k1, k2⟩ := run_partD (P := P) (w := w) hx hv hn
        refine ⟨u, ?_, k2, loadD_WF hx hw⟩
        simp only [Instr.index, asIntOf, Sem.run_bind, Sem.run_pure, Result.andThen_ok, run_underlying hu, hin, and_self, if_true, run_sizeOf' hei]
        simpa using k1
    · cases e2
  · rename_i s hu
    rcases cond_inv e with ⟨hin, e2⟩ | ⟨_, e2⟩
    · have hin : 0 ≤ n ∧ n < s.size := by simpa [inB] using hin
      refine ⟨_, e2, fun α h w v k hv hw => ?_⟩
      cases hv; rename_i hv; cases hv
      refine ⟨.int .u8 (byteAt s n.toNat), ?_, .one (.val _ rfl), trivial, trivial⟩
      have hlt : n.toNat < s.size := by omega
      simp [Instr.index, asIntOf, run_underlying hu, hin, byteAt]
    · cases e2
  · cases e

end Ev

namespace Ev
open Go

/-! ## One operation: the evaluator is right -/
structure CallS (C : Cfg) (f : FuncId) (args : List AV) (h : Heap) (v : AV) (h' : Heap) (wr : Nat) (m : List Nat) (l : Bool) : Prop where
  callable : ∃ fn, C.P.funcs[f]? = some fn ∧ fn.body.isSome = true
  wr : ∀ i, i < wr → i < h.length → h'[i]? = h[i]?
  quiet : l = false → h' = h ∧ m = []
  run : ∀ α w vs, AVVs α args vs → avsWF h args → heapWF h → Glob C α h → Sat α h w → Calls C.P f vs.toArray w (fun e w' => ∃ u α', e = .returned u ∧ Stp α h w α' h' w' m ∧ Sat α' h' w' ∧ AVV α' v u ∧ avWF h' v ∧ heapWF h')

def CallOk {β : Type} (C : Cfg) (call : Call β) : Prop := ∀ f args h K r, call f args h K = some r → ∃ v h' wr m l, K v h' wr m l = some r ∧ CallS C f args h v h' wr m l

theorem evalsK_inv {β : Type} {C : Cfg} {fr : Fr} : ∀ {xs : List Operand} {K : List AC → Option β} {r : β}, evalsK C fr xs K = some r →
    ∃ l, K l = some r ∧ ∀ {ys : List Operand} {h : Heap} {α : Nat → Loc} {w : World} {a : Act}, Hyp C ys fr h α w a → (∀ x ∈ xs, x ∈ ys) → ACVs α l (xs.map a.eval) ∧ ∀ y ∈ l, acWF h y
  | [], K, r, e => ⟨[], e, fun _ _ => ⟨.nil, fun _ hp => by cases hp⟩⟩
  | x :: xs, K, r, e => by
    obtain ⟨y, h1, e1⟩ := evalC_inv e
    obtain ⟨l, h2, h3⟩ := evalsK_inv e1
    refine ⟨y :: l, h2, fun H hm => ?_⟩
    obtain ⟨k1, k2⟩ := h1.okC H (hm x (by simp))
    obtain ⟨k3, k4⟩ := h3 H (fun p hp => hm p (by simp [hp]))
    exact ⟨.cons k1 k3, fun p hp => by rcases List.mem_cons.1 hp with rfl | hp; exact k2; exact k4 p hp⟩

theorem onesOf_ok {α : Nat → Loc} : ∀ {l : List AC} {cs : List Cl} {vs : List Value}, onesOf l = some cs → ACVs α l vs → Vs α cs vs
  | [], cs, vs, e, h => by cases e; cases h; exact .nil
  | .one x :: l, cs, vs, e, h => by
    simp only [onesOf] at e
    split at e
    · rename_i r hr
      cases e
      cases h with
      | cons h1 h2 => cases h1; rename_i h1; exact .cons h1 (onesOf_ok hr h2)
    · cases e
  | .agg _ :: l, cs, vs, e, h => by simp [onesOf] at e

theorem onesOf_WF {h : Heap} : ∀ {l : List AC} {cs : List Cl}, onesOf l = some cs → (∀ y ∈ l, acWF h y) → clWF.go h cs
  | [], cs, e, hw => by cases e; trivial
  | .one x :: l, cs, e, hw => by
    simp only [onesOf] at e
    split at e
    · rename_i r hr
      cases e
      have h1 := hw (.one x) (by simp)
      exact ⟨h1.1, onesOf_WF hr fun y hy => hw y (by simp [hy])⟩
    · cases e
  | .agg _ :: l, cs, e, hw => by simp [onesOf] at e

theorem isNil_run {α : Nat → Loc} {x : Cl} {v : Value} (h : isNil x = some false) (hv : V α x v) : (∃ a, v = .pointer (some a)) ∨ (∃ f vs, v = .func (.func f) #[] vs) ∨ (∃ t u, v = .iface t u) := by
  cases hv with
  | val u hu =>
    exfalso; unfold isNil at h
    split at h <;> first | (cases h; done) | (rename_i he; cases he; done)
  | bad => simp [isNil] at h
  | ptr => exact .inl ⟨_, rfl⟩
  | dptr => exact .inl ⟨_, rfl⟩
  | gsNil => simp [isNil] at h
  | gs => simp [isNil] at h
  | sl => simp [isNil] at h
  | fn => exact .inr (.inl ⟨_, _, rfl⟩)
  | ifc => exact .inr (.inr ⟨_, _, rfl⟩)

theorem ACVs.append {α : Nat → Loc} {l m : List AC} {vs us : List Value} (h : ACVs α l vs) (k : ACVs α m us) : ACVs α (l ++ m) (vs ++ us) := by
  induction h with
  | nil => exact k
  | cons h1 _ ih => exact .cons h1 ih

theorem ACVs.av {α : Nat → Loc} {l : List AC} {vs : List Value} (h : ACVs α l vs) : AVVs α (l.map .ac) vs := by
  induction h with
  | nil => exact .nil
  | cons h1 _ ih => exact .cons (.ac h1) ih

theorem AVVs.append {α : Nat → Loc} {l m : List AV} {vs us : List Value} (h : AVVs α l vs) (k : AVVs α m us) : AVVs α (l ++ m) (vs ++ us) := by
  induction h with
  | nil => exact k
  | cons h1 _ ih => exact .cons h1 ih

theorem Vs.av {α : Nat → Loc} : ∀ {l : List Cl} {vs : List Value}, Vs α l vs → AVVs α (l.map fun x => .ac (.one x)) vs
  | [], vs, h => by cases h; exact .nil
  | x :: l, vs, h => by cases h with | cons h1 h2 => exact .cons (.ac (.one h1)) (Vs.av h2)

theorem capsWF {h : Heap} : ∀ {l : List Cl}, clWF.go h l → ∀ x ∈ l.map (fun x => AV.ac (.one x)), avWF h x
  | [], _, x, hx => by cases hx
  | y :: l, hw, x, hx => by
    rcases List.mem_cons.1 hx with rfl | hx
    · exact ⟨hw.1, trivial⟩
    · exact capsWF hw.2 x hx

theorem ACVs.get {α : Nat → Loc} {l : List AC} {vs : List Value} (h : ACVs α l vs) {i : Nat} {x : AC} (hx : l[i]? = some x) : ∃ v, vs[i]? = some v ∧ ACV α x v := by
  induction h generalizing i with
  | nil => simp at hx
  | cons h1 _ ih =>
    cases i with
    | zero => simp at hx; subst hx; exact ⟨_, rfl, h1⟩
    | succ i => obtain ⟨v, g1, g2⟩ := ih (by simpa using hx); exact ⟨v, by simpa using g1, g2⟩

theorem evOp_ok {β : Type} {C : Cfg} (P : ProgOk C.P) {call : Call β} (hc : CallOk C call) {o : Oper} {fr : Fr} {h : Heap} {K : KR β} {r : β} (e : evOp C call o fr h K = some r) :
    ∃ x h' wr m l, K x h' wr m l = some r ∧ OpS C o fr h x h' wr m l := by
  unfold evOp at e
  simp only at e
  split at e
  · -- move
    rename_i x hop
    obtain ⟨av, h1, e1⟩ := evalK_inv e
    refine ⟨_, _, _, _, _, e1, .pure fun α w a H => ?_⟩
    obtain ⟨h2, h3⟩ := h1.ok H (by simp [hop, Op.operands])
    exact ⟨_, by simp [execOp, hop], h2, h3⟩
  · -- assign
    rename_i x hop
    obtain ⟨av, h1, e1⟩ := evalK_inv e
    refine ⟨_, _, _, _, _, e1, .pure fun α w a H => ?_⟩
    obtain ⟨h2, h3⟩ := h1.ok H (by simp [hop, Op.operands])
    exact ⟨_, by simp [execOp, hop], h2, h3⟩
  · -- pick
    rename_i c x y hop
    obtain ⟨t, ht, e1⟩ := evalC_inv e
    obtain ⟨b, rfl, e2⟩ := boolK_inv e1
    obtain ⟨av, hx, e3⟩ := evalK_inv e2
    obtain ⟨bv, hy, e4⟩ := evalK_inv e3
    have key : ∀ α w a, Hyp C o.op.operands.toList fr h α w a → a.eval c = .bool b := fun α w a H => by
      obtain ⟨h2, _⟩ := ht.okC H (by simp [hop, Op.operands])
      generalize a.eval c = z at h2
      cases h2; rename_i h2; cases h2; rfl
    rcases cond_inv e4 with ⟨rfl, e5⟩ | ⟨rfl, e5⟩
    · refine ⟨_, _, _, _, _, e5, .pure fun α w a H => ?_⟩
      obtain ⟨h2, h3⟩ := hx.ok H (by simp [hop, Op.operands])
      exact ⟨_, by simp [execOp, hop, key α w a H, asBool], h2, h3⟩
    · refine ⟨_, _, _, _, _, e5, .pure fun α w a H => ?_⟩
      obtain ⟨h2, h3⟩ := hy.ok H (by simp [hop, Op.operands])
      exact ⟨_, by simp [execOp, hop, key α w a H, asBool], h2, h3⟩
  · -- alloc
    rename_i t hop
    obtain ⟨z, hz, e1⟩ := optK_inv e
    refine newK_ok e1 fun α w a H => ?_
    obtain ⟨i, v, h1, h2, h3⟩ := P.zero t z hz
    refine ⟨t, v, ?_, h3 α, zeroA_WF hz⟩
    simp [execOp, hop, Instr.alloc, zeroValue, typeInfo, h1, h2, newVar, newRow]
  · -- box
    rename_i t x hop
    obtain ⟨z, hz, e1⟩ := evalC_inv e
    refine newK_ok e1 fun α w a H => ?_
    obtain ⟨h2, h3⟩ := hz.okC H (by simp [hop, Op.operands])
    refine ⟨t, a.eval x, ?_, h2, h3⟩
    simp [execOp, hop, Instr.box, newVar, newRow]
  · -- build
    rename_i t parts hop
    obtain ⟨ps, e1, hp⟩ := partsK_inv e
    obtain ⟨x, e2, hx⟩ := buildK_inv P.zero e1
    refine ⟨_, _, _, _, _, e2, .pureC fun α w a H => ?_⟩
    obtain ⟨h1, h2⟩ := hp H (fun p hp => by simp [hop, Op.operands]; exact ⟨p.1, by simpa using hp⟩)
    obtain ⟨u, k1, k2, k3⟩ := hx α h w _ h1 h2
    refine ⟨u, ?_, k2, k3⟩
    have : (parts.map fun (i, x) => (i, a.eval x)) = (parts.toList.map fun p => (p.1, a.eval p.2)).toArray := by
      apply Array.ext'; simp
    simp only [execOp, hop, Sem.run_bind]
    rw [this, k1]; rfl
  · -- load
    rename_i t x hop
    obtain ⟨y, h1, e1⟩ := evalC_inv e
    obtain ⟨x', e2, hx⟩ := loadK_inv e1
    refine ⟨_, _, _, _, _, e2, .pureC fun α w a H => ?_⟩
    obtain ⟨h2, h3⟩ := h1.okC H (by simp [hop, Op.operands])
    obtain ⟨k1, k2⟩ := hx H.hwf h3
    obtain ⟨u, k3, k4⟩ := k2 α w _ h2 H.sat
    exact ⟨u, by simp [execOp, hop, k3], k4, k1⟩
  · -- store
    rename_i t x y hop
    obtain ⟨x', h1, e1⟩ := evalC_inv e
    obtain ⟨y', h2, e2⟩ := evalC_inv e1
    obtain ⟨i, h', e3, hwr, hs⟩ := storeK_inv e2
    refine ⟨_, _, _, _, _, e3, ⟨fun j hj _ => hwr j hj, (fun hl => by cases hl), fun α w a H next Q hn => ?_⟩⟩
    obtain ⟨k1, k2⟩ := h1.okC H (by simp [hop, Op.operands])
    obtain ⟨k3, k4⟩ := h2.okC H (by simp [hop, Op.operands])
    obtain ⟨k5, k6⟩ := hs H.hwf k2 k4
    obtain ⟨w', k7, k8, k9⟩ := k6 α w _ _ k1 k3 H.sat
    have hrun : (execOp a.eval o).run C.P w = .ok .skip w' := by simp [execOp, hop, k7]
    unfold Oper.wp
    rw [hrun]
    exact hn α w' undef k8 k9 (AVV.undef α) (fun x hx => by cases hx) k5
  · -- nilCheck
    rename_i x hop
    obtain ⟨y, h1, e1⟩ := evalC_inv e
    split at e1
    · rename_i y
      obtain ⟨b, hb, e2⟩ := optK_inv e1
      split at e2
      · cases e2
      · rename_i hbf
        have hbf : b = false := by simpa using hbf
        subst hbf
        refine ⟨_, _, _, _, _, e2, .pureC fun α w a H => ?_⟩
        obtain ⟨k1, k2⟩ := h1.okC H (by simp [hop, Op.operands])
        have k1' := k1
        cases k1; rename_i k1
        refine ⟨a.eval x, ?_, k1', k2⟩
        rcases isNil_run hb k1 with ⟨a1, hv⟩ | ⟨f, vs, hv⟩ | ⟨t, u, hv⟩ <;> simp [execOp, hop, hv]
    · cases e1
  · -- binOp
    rename_i op t x y yt hop
    obtain ⟨x', h1, e1⟩ := evalC_inv e
    obtain ⟨y', h2, e2⟩ := evalC_inv e1
    obtain ⟨v, e3, hv, hrun⟩ := binA_inv (ox := x) (oy := y) (fun h => by
      split at h
      · rename_i h1; exact .inl h1
      · exact .inr h) e2
    refine ⟨_, _, _, _, _, e3, .pureC fun α w a H => ?_⟩
    obtain ⟨k1, k2⟩ := h1.okC H (by simp [hop, Op.operands])
    obtain ⟨k3, k4⟩ := h2.okC H (by simp [hop, Op.operands])
    refine ⟨v, ?_, .one (.val v hv), trivial, trivial⟩
    have := hrun α _ _ w k1 k3
    simp only [execOp, hop, Sem.run_bind] at this ⊢
    rw [this]; rfl
  · -- unOp
    rename_i op t x hop
    obtain ⟨x', h1, e1⟩ := evalC_inv e
    obtain ⟨v, e3, hv, hrun⟩ := unA_inv e1
    refine ⟨_, _, _, _, _, e3, .pureC fun α w a H => ?_⟩
    obtain ⟨k1, k2⟩ := h1.okC H (by simp [hop, Op.operands])
    exact ⟨v, by simp [execOp, hop, hrun C.P α _ w k1], .one (.val v hv), trivial, trivial⟩
  · -- convert
    rename_i src dst x hop
    obtain ⟨x', h1, e1⟩ := evalC_inv e
    obtain ⟨v, e3, hv, hrun⟩ := convA_inv e1
    refine ⟨_, _, _, _, _, e3, .pureC fun α w a H => ?_⟩
    obtain ⟨k1, k2⟩ := h1.okC H (by simp [hop, Op.operands])
    exact ⟨v, by simp [execOp, hop, hrun α _ w k1], .one (.val v hv), trivial, trivial⟩
  · -- makeFunc
    rename_i f first caps hop
    obtain ⟨hf, e1⟩ := ifK_inv e
    obtain ⟨l, e2, hl⟩ := evalsK_inv e1
    obtain ⟨cs, hcs, e3⟩ := optK_inv e2
    refine ⟨_, _, _, _, _, e3, .pureC fun α w a H => ?_⟩
    obtain ⟨k1, k2⟩ := hl H (fun x hx => by simp [hop, Op.operands]; exact .inr (by simpa using hx))
    have hf : first = #[] := by simpa using hf
    refine ⟨.func (.func f) #[] (caps.toList.map a.eval).toArray, ?_, .one (.fn f cs _ (onesOf_ok hcs k1)), onesOf_WF hcs k2, trivial⟩
    have : caps.map a.eval = (caps.toList.map a.eval).toArray := by apply Array.ext'; simp
    simp [execOp, hop, hf, Instr.makeFunc, this]
  · -- fieldAddr
    rename_i s x f hop
    obtain ⟨fs, fd, hu, hfd, e1⟩ := fieldK_inv e
    obtain ⟨x', h1, e2⟩ := evalC_inv e1
    obtain ⟨y, e3, hy⟩ := fieldAddrK_inv hu hfd e2
    refine ⟨_, _, _, _, _, e3, .pureC fun α w a H => ?_⟩
    obtain ⟨k1, k2⟩ := h1.okC H (by simp [hop, Op.operands])
    obtain ⟨u, k3, k4, k5⟩ := hy α h w _ k1 k2
    exact ⟨u, by simp [execOp, hop, k3], k4, k5⟩
  · -- field
    rename_i s x f hop
    obtain ⟨fs, fd, hu, hfd, e1⟩ := fieldK_inv e
    obtain ⟨x', h1, e2⟩ := evalC_inv e1
    split at e2
    · rename_i l
      obtain ⟨y, hy, e3⟩ := optK_inv e2
      refine ⟨_, _, _, _, _, e3, .pureC fun α w a H => ?_⟩
      obtain ⟨k1, k2⟩ := h1.okC H (by simp [hop, Op.operands])
      generalize hval : a.eval x = va at k1
      cases k1 with
      | agg k1 =>
        obtain ⟨u, k3, k4⟩ := run_part (P := C.P) (w := w) hy k1
        exact ⟨u, by simp [execOp, hop, hval, Instr.field, run_underlying hu, hfd, asAgg, k3], k4, loadS_WF hy k2⟩
    · cases e2
  · -- indexAddr
    rename_i t x ix hop
    obtain ⟨x', h1, e1⟩ := evalC_inv e
    obtain ⟨n', h2, e2⟩ := evalC_inv e1
    obtain ⟨k, n, rfl, e3⟩ := intK_inv e2
    obtain ⟨y, e4, hy⟩ := indexAddrK_inv e3
    refine ⟨_, _, _, _, _, e4, .pureC fun α w a H => ?_⟩
    obtain ⟨k1, k2⟩ := h1.okC H (by simp [hop, Op.operands])
    obtain ⟨k3, k4⟩ := h2.okC H (by simp [hop, Op.operands])
    have hix : a.eval ix = .int k n := by generalize a.eval ix = z at k3; cases k3; rename_i k3; cases k3; rfl
    obtain ⟨u, k5, k6, k7⟩ := hy α w _ k k1 k2
    exact ⟨u, by simp [execOp, hop, hix, k5], k6, k7⟩
  · -- index
    rename_i t x ix hop
    obtain ⟨x', h1, e1⟩ := evalC_inv e
    obtain ⟨n', h2, e2⟩ := evalC_inv e1
    obtain ⟨k, n, rfl, e3⟩ := intK_inv e2
    obtain ⟨y, e4, hy⟩ := indexK_inv e3
    refine ⟨_, _, _, _, _, e4, .pureC fun α w a H => ?_⟩
    obtain ⟨k1, k2⟩ := h1.okC H (by simp [hop, Op.operands])
    obtain ⟨k3, k4⟩ := h2.okC H (by simp [hop, Op.operands])
    have hix : a.eval ix = .int k n := by generalize a.eval ix = z at k3; cases k3; rename_i k3; cases k3; rfl
    obtain ⟨u, k5, k6, k7⟩ := hy α h w _ k k1 k2
    exact ⟨u, by simp [execOp, hop, hix, k5], k6, k7⟩
  · -- extract
    rename_i t ix hop
    obtain ⟨av, h1, e1⟩ := evalK_inv e
    split at e1
    · rename_i l
      obtain ⟨y, hy, e2⟩ := optK_inv e1
      refine ⟨_, _, _, _, _, e2, .pureC fun α w a H => ?_⟩
      obtain ⟨k1, k2⟩ := h1.ok H (by simp [hop, Op.operands])
      generalize hval : a.eval t = va at k1
      cases k1 with
      | tup k1 =>
        obtain ⟨v, g1, g2⟩ := k1.get hy
        exact ⟨v, by simp [execOp, hop, hval, Instr.extract, g1], g2, k2 y (List.mem_of_getElem? hy)⟩
    · cases e1
  · -- call
    rename_i c hop
    split at e
    · rename_i f hcal
      obtain ⟨f', h1, e1⟩ := evalC_inv e
      split at e1
      · rename_i g caps
        obtain ⟨args, e2, ha⟩ := evalsK_inv e1
        obtain ⟨x, h', wr, m, l, e3, hcs⟩ := hc _ _ _ _ _ e2
        refine ⟨_, _, _, _, _, e3, ⟨hcs.wr, hcs.quiet, fun α w a H next Q hn => ?_⟩⟩
        have hops : o.op.operands.toList = f :: c.args.toList := by simp [hop, Op.operands, Call.operands, hcal]
        obtain ⟨k1, k2⟩ := h1.okC H (by simp [hops])
        obtain ⟨k3, k4⟩ := ha H (fun x hx => by simp [hops]; exact .inr (by simpa using hx))
        generalize hval : a.eval f = vf at k1
        cases k1 with
        | one k1 =>
          cases k1 with
          | fn _ _ vs k1 =>
            obtain ⟨fn, hfn, hbody⟩ := hcs.callable
            have hname := P.names g fn hfn hbody
            have hrun : (execOp a.eval o).run C.P w = .ok (.enter g ((c.args.toList.map a.eval) ++ vs).toArray) w := by
              have hbn : fn.body.isNone = false := by cases hb : fn.body <;> simp_all
              have hargs : c.args.map a.eval = (c.args.toList.map a.eval).toArray := by apply Array.ext'; simp
              simp only [execOp, hop, resolve, hcal, hval, Deferred.ofValue, Sem.run_bind, Sem.run_pure, Result.andThen_ok, invoke, callFunc, run_program, hfn, hname, hbn, Bool.false_eq_true, if_false, hargs]
              simp
            unfold Oper.wp
            rw [hrun]
            simp only [Oper.upon]
            refine (hcs.run α w _ (k3.av.append k1.av) (fun x hx => ?_) H.hwf H.gl H.sat).mono ?_
            · rcases List.mem_append.1 hx with hx | hx
              · obtain ⟨y, hy, rfl⟩ := List.mem_map.1 hx; exact k4 y hy
              · exact capsWF k2.1 x hx
            · rintro e w' ⟨u, α', rfl, g1, g2, g3, g4, g5⟩
              exact hn α' w' u g1 g2 g3 g4 g5
      · cases e1
    · cases e
  · cases e

end Ev
