/-
  Each operation that the interpreter knows, and regions in any order, are right, for every program whose table of zero values is as reckoned (ProgOk).
-/
import Derived.Test.YtoklelancnkkpaaDoorEvC
set_option autoImplicit false
set_option linter.unusedVariables false
set_option linter.unusedSimpArgs false
namespace Ev
open Go

/-! ## One operation: the evaluator is right -/
structure CallS (C : Cfg) (f : FuncId) (args : List AV) (h : Heap) (v : AV) (h' : Heap) (ws : List Nat) (l : Bool) : Prop where
  callable : ∃ fn, C.P.funcs[f]? = some fn ∧ fn.body.isSome = true
  wr : ∀ i, i ∉ ws → i < h.length → h'[i]? = h[i]?
  quiet : l = false → h' = h
  len : h.length ≤ h'.length
  run : ∀ α w vs, AVVs α args vs → avsWF h args → heapWF h → Glob C α h → Sat α h w → Calls C.P f vs.toArray w (fun e w' => ∃ u α', e = .returned u ∧ Stp α h w α' h' w' ∧ Sat α' h' w' ∧ AVV α' v u ∧ avWF h' v ∧ heapWF h')

def CallOk {β : Type} (C : Cfg) (call : Call β) : Prop := ∀ f args h K r, call f args h K = some r → ∃ v h' ws l, K v h' ws l = some r ∧ CallS C f args h v h' ws l

theorem evalsK_inv {β : Type} {C : Cfg} {fr : Fr} : ∀ {xs : List Operand} {K : List AC → Option β} {r : β}, evalsK C fr xs K = some r →
    ∃ l, K l = some r ∧ ∀ {ys : List Operand} {h : Heap} {α : Nat → Loc} {w : World} {a : Act}, Hyp C ys fr h α w a → (∀ x ∈ xs, x ∈ ys) → ACVs α l (xs.map a.eval) ∧ ∀ y ∈ l, acWF h y
  | [], K, r, e => ⟨[], e, fun _ _ => ⟨.nil, fun _ hp => by cases hp⟩⟩
  | x :: xs, K, r, e => by
    obtain ⟨y, h1, e1⟩ := evalC_inv e
    obtain ⟨l, h2, h3⟩ := evalsK_inv e1
    refine ⟨y :: l, h2, fun H hm => ?_⟩
    obtain ⟨k1, k2⟩ := h1.okC H (hm x (by simp))
    obtain ⟨k3, k4⟩ := h3 H (fun p hp => hm p (by simp [hp]))
    exact ⟨.cons k1 k3, fun p hp => by rcases List.mem_cons.1 hp with rfl | hp; exact k2; exact k4 p hp⟩

theorem onesOf_ok {α : Nat → Loc} : ∀ {l : List AC} {cs : List Cl} {vs : List Value}, onesOf l = some cs → ACVs α l vs → Vs α cs vs
  | [], cs, vs, e, h => by cases e; cases h; exact .nil
  | .one x :: l, cs, vs, e, h => by
    simp only [onesOf] at e
    split at e
    · rename_i r hr
      cases e
      cases h with
      | cons h1 h2 => cases h1; rename_i h1; exact .cons h1 (onesOf_ok hr h2)
    · cases e
  | .agg _ :: l, cs, vs, e, h => by simp [onesOf] at e

theorem onesOf_WF {h : Heap} : ∀ {l : List AC} {cs : List Cl}, onesOf l = some cs → (∀ y ∈ l, acWF h y) → clWF.go h cs
  | [], cs, e, hw => by cases e; trivial
  | .one x :: l, cs, e, hw => by
    simp only [onesOf] at e
    split at e
    · rename_i r hr
      cases e
      have h1 := hw (.one x) (by simp)
      exact ⟨h1.1, onesOf_WF hr fun y hy => hw y (by simp [hy])⟩
    · cases e
  | .agg _ :: l, cs, e, hw => by simp [onesOf] at e

theorem isNil_run {α : Nat → Loc} {x : Cl} {v : Value} (h : isNil x = some false) (hv : V α x v) : (∃ a, v = .pointer (some a)) ∨ (∃ f vs, v = .func (.func f) #[] vs) ∨ (∃ t u, v = .iface t u) := by
  cases hv with
  | val u hu =>
    unfold isNil at h
    split at h <;> first | (cases h; done) | (rename_i he; cases he; done) | (rename_i he; cases he; exact .inr (.inr ⟨_, _, rfl⟩))
  | bad => simp [isNil] at h
  | ptr => exact .inl ⟨_, rfl⟩
  | dptr => exact .inl ⟨_, rfl⟩
  | gsNil => simp [isNil] at h
  | gs => simp [isNil] at h
  | sl => simp [isNil] at h
  | fn => exact .inr (.inl ⟨_, _, rfl⟩)
  | ifc => exact .inr (.inr ⟨_, _, rfl⟩)

theorem ACVs.append {α : Nat → Loc} {l m : List AC} {vs us : List Value} (h : ACVs α l vs) (k : ACVs α m us) : ACVs α (l ++ m) (vs ++ us) := by
  induction h with
  | nil => exact k
  | cons h1 _ ih => exact .cons h1 ih

theorem ACVs.av {α : Nat → Loc} {l : List AC} {vs : List Value} (h : ACVs α l vs) : AVVs α (l.map .ac) vs := by
  induction h with
  | nil => exact .nil
  | cons h1 _ ih => exact .cons (.ac h1) ih

theorem AVVs.append {α : Nat → Loc} {l m : List AV} {vs us : List Value} (h : AVVs α l vs) (k : AVVs α m us) : AVVs α (l ++ m) (vs ++ us) := by
  induction h with
  | nil => exact k
  | cons h1 _ ih => exact .cons h1 ih

theorem Vs.av {α : Nat → Loc} : ∀ {l : List Cl} {vs : List Value}, Vs α l vs → AVVs α (l.map fun x => .ac (.one x)) vs
  | [], vs, h => by cases h; exact .nil
  | x :: l, vs, h => by cases h with | cons h1 h2 => exact .cons (.ac (.one h1)) (Vs.av h2)

theorem capsWF {h : Heap} : ∀ {l : List Cl}, clWF.go h l → ∀ x ∈ l.map (fun x => AV.ac (.one x)), avWF h x
  | [], _, x, hx => by cases hx
  | y :: l, hw, x, hx => by
    rcases List.mem_cons.1 hx with rfl | hx
    · exact ⟨hw.1, trivial⟩
    · exact capsWF hw.2 x hx

theorem ACVs.get {α : Nat → Loc} {l : List AC} {vs : List Value} (h : ACVs α l vs) {i : Nat} {x : AC} (hx : l[i]? = some x) : ∃ v, vs[i]? = some v ∧ ACV α x v := by
  induction h generalizing i with
  | nil => simp at hx
  | cons h1 _ ih =>
    cases i with
    | zero => simp at hx; subst hx; exact ⟨_, rfl, h1⟩
    | succ i => obtain ⟨v, g1, g2⟩ := ih (by simpa using hx); exact ⟨v, by simpa using g1, g2⟩

theorem Prim.opS {C : Cfg} {o : Oper} {fr : Fr} {h : Heap} {y : AV} {h' : Heap} {ws : List Nat} {l : Bool} {Pre : (Nat → Loc) → World → Sem Value → Prop} (p : Prim C.P h y h' ws l Pre)
    (k : ∀ α w a, Hyp C o.op.operands.toList fr h α w a → ∃ s : Sem Value, Pre α w s ∧ execOp a.eval o = (do pure (.value (← s)))) : OpS C o fr h y h' ws l where
  wr := p.wr
  quiet := p.quiet
  len := p.len
  run := fun α w a H next Q hn => by
    obtain ⟨s, h1, h2⟩ := k α w a H
    obtain ⟨α', w', v, h3, h4, h5, h6, h7, h8⟩ := p.run α w s H.hwf H.sat h1
    unfold Oper.wp
    rw [h2, Sem.run_bind, h3]
    exact hn α' w' v h4 h5 h6 h7 h8

theorem evOp_ok {β : Type} {C : Cfg} (P : ProgOk C.P) {call : Call β} (hc : CallOk C call) {o : Oper} {fr : Fr} {h : Heap} {K : KR β} {r : β} (e : evOp C call o fr h K = some r) :
    ∃ x h' ws l, K x h' ws l = some r ∧ OpS C o fr h x h' ws l := by
  unfold evOp at e
  simp only at e
  split at e
  · -- move
    rename_i x hop
    obtain ⟨av, h1, e1⟩ := evalK_inv e
    refine ⟨_, _, _, _, e1, .pure fun α w a H => ?_⟩
    obtain ⟨h2, h3⟩ := h1.ok H (by simp [hop, Op.operands])
    exact ⟨_, by simp [execOp, hop], h2, h3⟩
  · -- assign
    rename_i x hop
    obtain ⟨av, h1, e1⟩ := evalK_inv e
    refine ⟨_, _, _, _, e1, .pure fun α w a H => ?_⟩
    obtain ⟨h2, h3⟩ := h1.ok H (by simp [hop, Op.operands])
    exact ⟨_, by simp [execOp, hop], h2, h3⟩
  · -- pick
    rename_i c x y hop
    obtain ⟨t, ht, e1⟩ := evalC_inv e
    obtain ⟨b, rfl, e2⟩ := boolK_inv e1
    obtain ⟨av, hx, e3⟩ := evalK_inv e2
    obtain ⟨bv, hy, e4⟩ := evalK_inv e3
    have key : ∀ α w a, Hyp C o.op.operands.toList fr h α w a → a.eval c = .bool b := fun α w a H => by
      obtain ⟨h2, _⟩ := ht.okC H (by simp [hop, Op.operands])
      generalize a.eval c = z at h2
      cases h2; rename_i h2; cases h2; rfl
    rcases cond_inv e4 with ⟨rfl, e5⟩ | ⟨rfl, e5⟩
    · refine ⟨_, _, _, _, e5, .pure fun α w a H => ?_⟩
      obtain ⟨h2, h3⟩ := hx.ok H (by simp [hop, Op.operands])
      exact ⟨_, by simp [execOp, hop, key α w a H, asBool], h2, h3⟩
    · refine ⟨_, _, _, _, e5, .pure fun α w a H => ?_⟩
      obtain ⟨h2, h3⟩ := hy.ok H (by simp [hop, Op.operands])
      exact ⟨_, by simp [execOp, hop, key α w a H, asBool], h2, h3⟩
  · -- alloc
    rename_i t hop
    obtain ⟨z, hz, e1⟩ := optK_inv e
    refine newK_ok e1 fun α w a H => ?_
    obtain ⟨i, v, h1, h2, h3⟩ := P.zero t z hz
    refine ⟨t, v, ?_, h3 α, zeroA_WF hz⟩
    simp [execOp, hop, Instr.alloc, zeroValue, typeInfo, h1, h2, newVar, newRow]
  · -- box
    rename_i t x hop
    obtain ⟨z, hz, e1⟩ := evalC_inv e
    refine newK_ok e1 fun α w a H => ?_
    obtain ⟨h2, h3⟩ := hz.okC H (by simp [hop, Op.operands])
    refine ⟨t, a.eval x, ?_, h2, h3⟩
    simp [execOp, hop, Instr.box, newVar, newRow]
  · -- build
    rename_i t parts hop
    obtain ⟨ps, e1, hp⟩ := partsK_inv e
    obtain ⟨x, e2, hx⟩ := buildK_inv P.zero e1
    refine ⟨_, _, _, _, e2, .pureC fun α w a H => ?_⟩
    obtain ⟨h1, h2⟩ := hp H (fun p hp => by simp [hop, Op.operands]; exact ⟨p.1, by simpa using hp⟩)
    obtain ⟨u, k1, k2, k3⟩ := hx α h w _ h1 h2
    refine ⟨u, ?_, k2, k3⟩
    have : (parts.map fun (i, x) => (i, a.eval x)) = (parts.toList.map fun p => (p.1, a.eval p.2)).toArray := by
      apply Array.ext'; simp
    simp only [execOp, hop, Sem.run_bind]
    rw [this, k1]; rfl
  · -- buildSlice
    rename_i t len parts hop
    obtain ⟨ps, e1, hp⟩ := partsK_inv e
    obtain ⟨y, h', ws, l, e2, hx⟩ := buildSliceK_inv P.zero e1
    refine ⟨_, _, _, _, e2, hx.opS fun α w a H => ?_⟩
    obtain ⟨h1, h2⟩ := hp H (fun p hp => by simp [hop, Op.operands]; exact ⟨p.1, by simpa using hp⟩)
    refine ⟨_, ⟨_, h1, h2, rfl⟩, ?_⟩
    have : (parts.map fun (i, x) => (i, a.eval x)) = (parts.toList.map fun p => (p.1, a.eval p.2)).toArray := by
      apply Array.ext'; simp
    simp only [execOp, hop]
    rw [this]
  · -- load
    rename_i t x hop
    obtain ⟨y, h1, e1⟩ := evalC_inv e
    obtain ⟨x', e2, hx⟩ := loadK_inv e1
    refine ⟨_, _, _, _, e2, .pureC fun α w a H => ?_⟩
    obtain ⟨h2, h3⟩ := h1.okC H (by simp [hop, Op.operands])
    obtain ⟨k1, k2⟩ := hx H.hwf h3
    obtain ⟨u, k3, k4⟩ := k2 α w _ h2 H.sat
    exact ⟨u, by simp [execOp, hop, k3], k4, k1⟩
  · -- store
    rename_i t x y hop
    obtain ⟨x', h1, e1⟩ := evalC_inv e
    obtain ⟨y', h2, e2⟩ := evalC_inv e1
    obtain ⟨i, h', e3, hwr, hlh, hs⟩ := storeK_inv e2
    refine ⟨_, _, _, _, e3, ⟨fun j hj _ => hwr j (by simpa using hj), (fun hl => by cases hl), Nat.le_of_eq hlh.symm, fun α w a H next Q hn => ?_⟩⟩
    obtain ⟨k1, k2⟩ := h1.okC H (by simp [hop, Op.operands])
    obtain ⟨k3, k4⟩ := h2.okC H (by simp [hop, Op.operands])
    obtain ⟨k5, k6⟩ := hs H.hwf k2 k4
    obtain ⟨w', k7, k8, k9⟩ := k6 α w _ _ k1 k3 H.sat
    have hrun : (execOp a.eval o).run C.P w = .ok .skip w' := by simp [execOp, hop, k7]
    unfold Oper.wp
    rw [hrun]
    exact hn α w' undef k8 k9 (AVV.undef α) (fun x hx => by cases hx) k5
  · -- nilCheck
    rename_i x hop
    obtain ⟨y, h1, e1⟩ := evalC_inv e
    split at e1
    · rename_i y
      obtain ⟨b, hb, e2⟩ := optK_inv e1
      split at e2
      · cases e2
      · rename_i hbf
        have hbf : b = false := by simpa using hbf
        subst hbf
        refine ⟨_, _, _, _, e2, .pureC fun α w a H => ?_⟩
        obtain ⟨k1, k2⟩ := h1.okC H (by simp [hop, Op.operands])
        have k1' := k1
        cases k1; rename_i k1
        refine ⟨a.eval x, ?_, k1', k2⟩
        rcases isNil_run hb k1 with ⟨a1, hv⟩ | ⟨f, vs, hv⟩ | ⟨t, u, hv⟩ <;> simp [execOp, hop, hv]
    · cases e1
  · -- binOp
    rename_i op t x y yt hop
    obtain ⟨x', h1, e1⟩ := evalC_inv e
    obtain ⟨y', h2, e2⟩ := evalC_inv e1
    obtain ⟨v, e3, hv, hrun⟩ := binA_inv (ox := x) (oy := y) (fun h => by
      split at h
      · rename_i h1; exact .inl h1
      · exact .inr h) e2
    refine ⟨_, _, _, _, e3, .pureC fun α w a H => ?_⟩
    obtain ⟨k1, k2⟩ := h1.okC H (by simp [hop, Op.operands])
    obtain ⟨k3, k4⟩ := h2.okC H (by simp [hop, Op.operands])
    refine ⟨v, ?_, .one (.val v hv), trivial, trivial⟩
    have := hrun α _ _ w k1 k3
    simp only [execOp, hop, Sem.run_bind] at this ⊢
    rw [this]; rfl
  · -- unOp
    rename_i op t x hop
    obtain ⟨x', h1, e1⟩ := evalC_inv e
    obtain ⟨v, e3, hv, hrun⟩ := unA_inv e1
    refine ⟨_, _, _, _, e3, .pureC fun α w a H => ?_⟩
    obtain ⟨k1, k2⟩ := h1.okC H (by simp [hop, Op.operands])
    exact ⟨v, by simp [execOp, hop, hrun C.P α _ w k1], .one (.val v hv), trivial, trivial⟩
  · -- convert
    rename_i src dst x hop
    obtain ⟨x', h1, e1⟩ := evalC_inv e
    obtain ⟨y, h', ws, l, e2, hx⟩ := convK_inv e1
    refine ⟨_, _, _, _, e2, hx.opS fun α w a H => ?_⟩
    obtain ⟨k1, k2⟩ := h1.okC H (by simp [hop, Op.operands])
    exact ⟨_, ⟨_, k1, k2, rfl⟩, by simp only [execOp, hop]⟩
  · -- makeFunc
    rename_i f first caps hop
    obtain ⟨hf, e1⟩ := ifK_inv e
    obtain ⟨l, e2, hl⟩ := evalsK_inv e1
    obtain ⟨cs, hcs, e3⟩ := optK_inv e2
    refine ⟨_, _, _, _, e3, .pureC fun α w a H => ?_⟩
    obtain ⟨k1, k2⟩ := hl H (fun x hx => by simp [hop, Op.operands]; exact .inr (by simpa using hx))
    have hf : first = #[] := by simpa using hf
    refine ⟨.func (.func f) #[] (caps.toList.map a.eval).toArray, ?_, .one (.fn f cs _ (onesOf_ok hcs k1)), onesOf_WF hcs k2, trivial⟩
    have : caps.map a.eval = (caps.toList.map a.eval).toArray := by apply Array.ext'; simp
    simp [execOp, hop, hf, Instr.makeFunc, this]
  · -- makeInterface
    rename_i t x hop
    obtain ⟨x', h1, e1⟩ := evalC_inv e
    obtain ⟨y, e2, hx⟩ := mkIfc_inv e1
    refine ⟨_, _, _, _, e2, .pureC fun α w a H => ?_⟩
    obtain ⟨k1, k2⟩ := h1.okC H (by simp [hop, Op.operands])
    obtain ⟨v, k3, k4, k5⟩ := hx α h _ w k1 k2
    exact ⟨v, by simp [execOp, hop, k3], k4, k5⟩
  · -- makeSlice
    rename_i t l c hop
    obtain ⟨l', h1, e1⟩ := evalC_inv e
    obtain ⟨c', h2, e2⟩ := evalC_inv e1
    obtain ⟨kl, nl, rfl, e3⟩ := intK_inv e2
    obtain ⟨kc, nc, rfl, e4⟩ := intK_inv e3
    obtain ⟨y, h', ws, lb, e5, hx⟩ := makeSliceK_inv P.zero e4
    refine ⟨_, _, _, _, e5, hx.opS fun α w a H => ?_⟩
    have g1 := h1.int H (by simp [hop, Op.operands])
    have g2 := h2.int H (by simp [hop, Op.operands])
    exact ⟨_, ⟨kl, kc, rfl⟩, by simp only [execOp, hop, g1, g2]⟩
  · -- slice
    rename_i t x lo hi hop
    obtain ⟨x', h1, e1⟩ := evalC_inv e
    obtain ⟨y, e2, hx⟩ := sliceK_inv e1
    refine ⟨_, _, _, _, e2, .pureC fun α w a H => ?_⟩
    obtain ⟨k1, k2⟩ := h1.okC H (by simp [hop, Op.operands])
    obtain ⟨u, k3, k4, k5⟩ := hx α w _ (lo.map a.eval) (hi.map a.eval) (fun o k n ho he => by rw [ho]; simp [he.int H (by simp [hop, Op.operands, ho])]) (fun hn => by rw [hn]; rfl)
      (fun o k n ho he => by rw [ho]; simp [he.int H (by simp [hop, Op.operands, ho])]) (fun hn => by rw [hn]; rfl) k1 k2
    exact ⟨u, by simp [execOp, hop, k3], k4, k5⟩
  · -- fieldAddr
    rename_i s x f hop
    obtain ⟨fs, fd, hu, hfd, e1⟩ := fieldK_inv e
    obtain ⟨x', h1, e2⟩ := evalC_inv e1
    obtain ⟨y, e3, hy⟩ := fieldAddrK_inv hu hfd e2
    refine ⟨_, _, _, _, e3, .pureC fun α w a H => ?_⟩
    obtain ⟨k1, k2⟩ := h1.okC H (by simp [hop, Op.operands])
    obtain ⟨u, k3, k4, k5⟩ := hy α h w _ k1 k2
    exact ⟨u, by simp [execOp, hop, k3], k4, k5⟩
  · -- field
    rename_i s x f hop
    obtain ⟨fs, fd, hu, hfd, e1⟩ := fieldK_inv e
    obtain ⟨x', h1, e2⟩ := evalC_inv e1
    split at e2
    · rename_i l
      obtain ⟨y, hy, e3⟩ := optK_inv e2
      refine ⟨_, _, _, _, e3, .pureC fun α w a H => ?_⟩
      obtain ⟨k1, k2⟩ := h1.okC H (by simp [hop, Op.operands])
      generalize hval : a.eval x = va at k1
      cases k1 with
      | agg k1 =>
        obtain ⟨u, k3, k4⟩ := run_part (P := C.P) (w := w) hy k1
        exact ⟨u, by simp [execOp, hop, hval, Instr.field, run_underlying hu, hfd, asAgg, k3], k4, loadS_WF hy k2⟩
    · cases e2
  · -- indexAddr
    rename_i t x ix hop
    obtain ⟨x', h1, e1⟩ := evalC_inv e
    obtain ⟨n', h2, e2⟩ := evalC_inv e1
    obtain ⟨k, n, rfl, e3⟩ := intK_inv e2
    obtain ⟨y, e4, hy⟩ := indexAddrK_inv e3
    refine ⟨_, _, _, _, e4, .pureC fun α w a H => ?_⟩
    obtain ⟨k1, k2⟩ := h1.okC H (by simp [hop, Op.operands])
    obtain ⟨k3, k4⟩ := h2.okC H (by simp [hop, Op.operands])
    have hix : a.eval ix = .int k n := by generalize a.eval ix = z at k3; cases k3; rename_i k3; cases k3; rfl
    obtain ⟨u, k5, k6, k7⟩ := hy α w _ k k1 k2
    exact ⟨u, by simp [execOp, hop, hix, k5], k6, k7⟩
  · -- index
    rename_i t x ix hop
    obtain ⟨x', h1, e1⟩ := evalC_inv e
    obtain ⟨n', h2, e2⟩ := evalC_inv e1
    obtain ⟨k, n, rfl, e3⟩ := intK_inv e2
    obtain ⟨y, e4, hy⟩ := indexK_inv e3
    refine ⟨_, _, _, _, e4, .pureC fun α w a H => ?_⟩
    obtain ⟨k1, k2⟩ := h1.okC H (by simp [hop, Op.operands])
    obtain ⟨k3, k4⟩ := h2.okC H (by simp [hop, Op.operands])
    have hix : a.eval ix = .int k n := by generalize a.eval ix = z at k3; cases k3; rename_i k3; cases k3; rfl
    obtain ⟨u, k5, k6, k7⟩ := hy α h w _ k k1 k2
    exact ⟨u, by simp [execOp, hop, hix, k5], k6, k7⟩
  · -- typeAssert
    rename_i x xt t hop
    obtain ⟨x', h1, e1⟩ := evalC_inv e
    obtain ⟨y, e2, hx⟩ := assertK_inv e1
    refine ⟨_, _, _, _, e2, .pureC fun α w a H => ?_⟩
    obtain ⟨k1, k2⟩ := h1.okC H (by simp [hop, Op.operands])
    obtain ⟨u, k3, k4, k5⟩ := hx α h _ w xt k1 k2
    exact ⟨u, by simp [execOp, hop, k3], k4, k5⟩
  · -- extract
    rename_i t ix hop
    obtain ⟨av, h1, e1⟩ := evalK_inv e
    split at e1
    · rename_i l
      obtain ⟨y, hy, e2⟩ := optK_inv e1
      refine ⟨_, _, _, _, e2, .pureC fun α w a H => ?_⟩
      obtain ⟨k1, k2⟩ := h1.ok H (by simp [hop, Op.operands])
      generalize hval : a.eval t = va at k1
      cases k1 with
      | tup k1 =>
        obtain ⟨v, g1, g2⟩ := k1.get hy
        exact ⟨v, by simp [execOp, hop, hval, Instr.extract, g1], g2, k2 y (List.mem_of_getElem? hy)⟩
    · cases e1
  · -- call
    rename_i c hop
    split at e
    · rename_i f hcal
      obtain ⟨f', h1, e1⟩ := evalC_inv e
      split at e1
      · rename_i g caps
        obtain ⟨args, e2, ha⟩ := evalsK_inv e1
        obtain ⟨x, h', ws, l, e3, hcs⟩ := hc _ _ _ _ _ e2
        refine ⟨_, _, _, _, e3, ⟨hcs.wr, hcs.quiet, hcs.len, fun α w a H next Q hn => ?_⟩⟩
        have hops : o.op.operands.toList = f :: c.args.toList := by simp [hop, Op.operands, Call.operands, hcal]
        obtain ⟨k1, k2⟩ := h1.okC H (by simp [hops])
        obtain ⟨k3, k4⟩ := ha H (fun x hx => by simp [hops]; exact .inr (by simpa using hx))
        generalize hval : a.eval f = vf at k1
        cases k1 with
        | one k1 =>
          cases k1 with
          | fn _ _ vs k1 =>
            obtain ⟨fn, hfn, hbody⟩ := hcs.callable
            have hname := P.names g fn hfn hbody
            have hrun : (execOp a.eval o).run C.P w = .ok (.enter g ((c.args.toList.map a.eval) ++ vs).toArray) w := by
              have hbn : fn.body.isNone = false := by cases hb : fn.body <;> simp_all
              have hargs : c.args.map a.eval = (c.args.toList.map a.eval).toArray := by apply Array.ext'; simp
              simp only [execOp, hop, resolve, hcal, hval, Deferred.ofValue, Sem.run_bind, Sem.run_pure, Result.andThen_ok, invoke, callFunc, run_program, hfn, hname, hbn, Bool.false_eq_true, if_false, hargs]
              simp
            unfold Oper.wp
            rw [hrun]
            simp only [Oper.upon]
            refine (hcs.run α w _ (k3.av.append k1.av) (fun x hx => ?_) H.hwf H.gl H.sat).mono ?_
            · rcases List.mem_append.1 hx with hx | hx
              · obtain ⟨y, hy, rfl⟩ := List.mem_map.1 hx; exact k4 y hy
              · exact capsWF k2.1 x hx
            · rintro e w' ⟨u, α', rfl, g1, g2, g3, g4, g5⟩
              exact hn α' w' u g1 g2 g3 g4 g5
      · cases e1
    · -- a method
      rename_i rc name hcal
      obtain ⟨rv, h1, e1⟩ := evalC_inv e
      obtain ⟨t, y, e2, hy⟩ := ifcK_inv e1
      obtain ⟨g, hg, e3⟩ := optK_inv e2
      obtain ⟨args, e4, ha⟩ := evalsK_inv e3
      obtain ⟨x, h', ws, l, e5, hcs⟩ := hc _ _ _ _ _ e4
      refine ⟨_, _, _, _, e5, ⟨hcs.wr, hcs.quiet, hcs.len, fun α w a H next Q hn => ?_⟩⟩
      have hops : o.op.operands.toList = rc :: c.args.toList := by simp [hop, Op.operands, Call.operands, hcal]
      obtain ⟨k1, k2⟩ := h1.okC H (by simp [hops])
      obtain ⟨k3, k4⟩ := ha H (fun x hx => by simp [hops]; exact .inr (by simpa using hx))
      obtain ⟨u, hval, k5, k6⟩ := hy α h _ k1 k2
      obtain ⟨fn, hfn, hbody⟩ := hcs.callable
      have hname := P.names g fn hfn hbody
      have hbn : fn.body.isNone = false := by cases hb : fn.body <;> simp_all
      have hargs : c.args.map a.eval = (c.args.toList.map a.eval).toArray := by apply Array.ext'; simp
      have hrun : (execOp a.eval o).run C.P w = .ok (.enter g (u :: c.args.toList.map a.eval).toArray) w := by
        have := callMethod_ok (P := C.P) hg hfn hname hbn u (c.args.toList.map a.eval).toArray w
        have hex : ((#[Value.iface t u] ++ (c.args.toList.map a.eval).toArray).extract 1 (#[Value.iface t u] ++ (c.args.toList.map a.eval).toArray).size) = (c.args.toList.map a.eval).toArray := by
          apply Array.ext'; simp [List.take_of_length_le]
        simp only [execOp, hop, resolve, hcal, hval, Sem.run_bind, Sem.run_pure, Result.andThen_ok, invoke, hargs]
        have h0 : (#[Value.iface t u] ++ (c.args.toList.map a.eval).toArray)[0]? = some (.iface t u) := by simp
        simp only [h0, hex, this]
        congr 2
        apply Array.ext'; simp
      unfold Oper.wp
      rw [hrun]
      simp only [Oper.upon]
      refine (hcs.run α w _ (.cons (.ac k5) k3.av) (fun x hx => ?_) H.hwf H.gl H.sat).mono ?_
      · rcases List.mem_cons.1 hx with rfl | hx
        · exact k6
        · obtain ⟨y, hy, rfl⟩ := List.mem_map.1 hx; exact k4 y hy
      · rintro e w' ⟨u, α', rfl, g1, g2, g3, g4, g5⟩
        exact hn α' w' u g1 g2 g3 g4 g5
    · -- a built-in function
      rename_i b hcal
      obtain ⟨args, e1, ha⟩ := evalsK_inv e
      obtain ⟨hb, y, h', ws, l, e2, hx⟩ := builtinK_inv e1
      refine ⟨_, _, _, _, e2, hx.opS fun α w a H => ?_⟩
      have hops : o.op.operands.toList = c.args.toList := by simp [hop, Op.operands, Call.operands, hcal]
      obtain ⟨k3, k4⟩ := ha H (fun x hx => by rw [hops]; exact hx)
      have hargs : c.args.map a.eval = (c.args.toList.map a.eval).toArray := by apply Array.ext'; simp
      refine ⟨_, ⟨_, o.type, k3, k4, rfl⟩, ?_⟩
      simp only [execOp, hop, resolve, hcal, hargs]
      exact hb o.type _ _
  · cases e

end Ev

namespace Ev
open Go

/-! ## What an operation hands on does not hang on who asks -/
section
variable {β : Type} {γ δ : Type}

def Det (f : (γ → Option β) → Option β) : Prop := ∀ K r, f K = some r → ∃ x, ∀ K', f K' = K' x

theorem Det.pure (x : γ) : Det (β := β) fun K => K x := fun K r _ => ⟨x, fun _ => rfl⟩
theorem Det.none : Det (β := β) (γ := γ) fun _ => .none := fun K r e => by cases e
theorem Det.opt (o : Option γ) : Det (β := β) (optK o) := fun K r e => by
  cases o with
  | none => simp [optK] at e
  | some x => exact ⟨x, fun _ => rfl⟩
theorem Det.bind {f : (δ → Option β) → Option β} {g : δ → (γ → Option β) → Option β} (hf : Det f) (hg : ∀ x, Det (g x)) : Det fun K => f fun x => g x K := fun K r e => by
  obtain ⟨x, hx⟩ := hf _ r e
  have e1 : g x K = some r := (hx fun x => g x K).symm.trans e
  obtain ⟨y, hy⟩ := hg x K r e1
  exact ⟨y, fun K' => (hx fun x => g x K').trans (hy K')⟩
theorem Det.if {f : (γ → Option β) → Option β} (b : Bool) (hf : Det f) : Det fun K => ifK b (f K) := fun K r e => by
  cases b with
  | true => exact hf K r e
  | false => cases e
theorem Det.ite {f g : (γ → Option β) → Option β} (p : Prop) [Decidable p] (hf : Det f) (hg : Det g) : Det fun K => if p then f K else g K := fun K r e => by
  by_cases h : p
  · simp only [h, if_true] at e ⊢; exact hf K r e
  · simp only [h, if_false] at e ⊢; exact hg K r e
theorem Det.cond {f g : (γ → Option β) → Option β} (b : Bool) (hf : Det f) (hg : Det g) : Det fun K => cond b (f K) (g K) := fun K r e => by
  cases b with
  | true => exact hf K r e
  | false => exact hg K r e
theorem Det.get : ∀ (l : List γ) (n : Nat), Det (β := β) fun K => getK l n .none K
  | [], n => fun K r e => by simp [getK] at e
  | x :: l, 0 => fun K r _ => ⟨x, fun _ => rfl⟩
  | x :: l, n + 1 => fun K r e => by
    obtain ⟨y, hy⟩ := Det.get l n K r (by simpa [getK] using e)
    exact ⟨y, fun K' => by simpa [getK] using hy K'⟩
end

variable {β : Type}
theorem det_evalK (C : Cfg) (fr : Fr) (x : Operand) : Det (β := β) (evalK C fr x) := by
  cases x with
  | tmp t => exact Det.get fr t
  | const v => exact (Det.opt (constA v)).bind fun x => .pure _
  | global g => exact (Det.opt (posN C.glob g)).bind fun i => .pure _
  | func f => exact .pure _
theorem det_evalC (C : Cfg) (fr : Fr) (x : Operand) : Det (β := β) (evalC C fr x) := by
  unfold evalC
  refine (det_evalK C fr x).bind (g := fun y K => match y with | .ac y => K y | _ => none) fun y => ?_
  cases y with
  | ac y => exact .pure y
  | tup l => exact .none
  | top => exact .none
theorem det_evalsK (C : Cfg) (fr : Fr) : ∀ xs : List Operand, Det (β := β) (evalsK C fr xs)
  | [] => .pure []
  | x :: xs => (det_evalC C fr x).bind fun v => (det_evalsK C fr xs).bind fun vs => .pure _
theorem det_int (x : AC) : Det (β := β) (intK x) := by
  intro K r e
  unfold intK at e
  split at e
  · rename_i k n; exact ⟨n, fun _ => rfl⟩
  · cases e
theorem det_bool (x : AC) : Det (β := β) (boolK x) := by
  intro K r e
  unfold boolK at e
  split at e
  · rename_i b; exact ⟨b, fun _ => rfl⟩
  · cases e
theorem det_eqOp (op : BinOp) (b : Bool) : Det (β := β) (eqOp op b) := by
  intro K r e
  cases op <;> first | exact ⟨_, fun _ => rfl⟩ | (simp [eqOp] at e)
theorem det_binI (op : BinOp) (k : IntKind) (a b : Int) : Det (β := β) (binI op k a b) := by
  intro K r e
  cases op
  case quo => exact (Det.cond (b == 0) .none (.pure _)) K r e
  case rem => exact (Det.cond (b == 0) .none (.pure _)) K r e
  all_goals first | exact ⟨_, fun _ => rfl⟩ | (simp [binI] at e)
theorem det_unA (op : UnOp) (x : AC) : Det (β := β) (unA op x) := by
  intro K r e
  unfold unA at e
  split at e
  · exact ⟨_, fun _ => rfl⟩
  · exact ⟨_, fun _ => rfl⟩
  · exact ⟨_, fun _ => rfl⟩
  · cases e
theorem det_strA (op : BinOp) (a b : ByteArray) : Det (β := β) (strA op a b) := by
  intro K r e
  cases op
  case add => exact (Det.cond _ (.pure _) .none) K r e
  all_goals first | exact ⟨_, fun _ => rfl⟩ | (simp [strA] at e)
theorem det_binA (P : Program) (op : BinOp) (t : TypeId) (lit : Bool) (x y : AC) : Det (β := β) (binA P op t lit x y) := by
  have h : ∀ (K : AV → Option β) r, binA P op t lit x y K = some r → ∃ z, ∀ K' : AV → Option β, binA P op t lit x y K' = K' z := by
    intro K r e
    unfold binA at e ⊢
    split at e
    · split at e
      · exact (Det.cond (iLt _ 0) .none (.pure _)) K r e
      · exact (Det.cond (iLt _ 0) .none (.pure _)) K r e
      · rename_i k a k' b _ _ _
        split at e
        · rename_i hk
          obtain ⟨z, hz⟩ := det_binI op k a b K r e
          exact ⟨z, fun K' => by simp only [hk, if_true]; rw [← hk]; exact hz K'⟩
        · cases e
    · exact det_strA op _ _ K r e
    · split at e
      · cases e
      · rename_i hg
        obtain ⟨z, hz⟩ := ((Det.opt _).bind fun b => det_eqOp op b) K r e
        exact ⟨z, fun K' => by rw [if_neg hg]; exact hz K'⟩
    · split at e
      · rename_i hg
        obtain ⟨z, hz⟩ := ((Det.opt _).bind fun b => det_eqOp op b) K r e
        exact ⟨z, fun K' => by rw [if_pos hg]; exact hz K'⟩
      · cases e
  exact h
theorem det_convA (P : Program) (src dst : TypeId) (x : AC) : Det (β := β) (convA P src dst x) := by
  intro K r e
  unfold convA at e ⊢
  split at e
  · exact ⟨_, fun _ => rfl⟩
  · cases e
theorem det_fieldK (P : Program) (s : TypeId) (f : Nat) : Det (β := β) (fieldK P s f) := by
  intro K r e
  unfold fieldK at e ⊢
  split at e
  · exact Det.opt _ K r e
  · cases e
end Ev
namespace Ev
open Go
variable {β : Type}
theorem det_use {f : (AV → Option β) → Option β} (D : Det f) {K : KR β} {h : Heap} {r : β} (e : f (fun x => K x h [] false) = some r) : ∃ x, ∀ (h2 : Heap) (K' : KR β), f (fun x => K' x h2 [] false) = K' x h2 [] false := by
  obtain ⟨x, hx⟩ := D _ r e
  exact ⟨x, fun h2 K' => hx fun x => K' x h2 [] false⟩
theorem det_fieldAddr (P : Program) (fd : Field) (a : AC) : Det (β := β) (fieldAddrK P fd a) := by
  unfold fieldAddrK
  refine (Det.opt _).bind fun i => Det.if _ ?_
  intro K r e
  simp only at e ⊢
  split at e
  · exact ⟨_, fun _ => rfl⟩
  · exact ⟨_, fun _ => rfl⟩
  · cases e
theorem det_indexK (P : Program) (t : TypeId) (a : AC) (n : Int) : Det (β := β) (indexK P t a n) := by
  intro K r e
  unfold indexK at e ⊢
  split at e
  · exact ((Det.opt _).bind fun ei => Det.if _ (Det.cond _ (Det.opt _) .none)) K r e
  · exact (Det.cond _ (.pure _) .none) K r e
  · cases e
theorem det_partsK (C : Cfg) (fr : Fr) : ∀ xs : List (Nat × Operand), Det (β := β) (partsK C fr xs)
  | [] => .pure []
  | (i, x) :: xs => (det_evalC C fr x).bind fun v => (det_partsK C fr xs).bind fun vs => .pure _
theorem det_buildK (P : Program) (t : TypeId) (ps : List (Nat × AC)) : Det (β := β) (buildK P t ps) := by
  intro K r e
  unfold buildK at e ⊢
  split at e
  · exact (Det.if _ ((Det.opt _).bind fun l => .pure _)) K r e
  · exact ((Det.opt _).bind fun j => (Det.opt _).bind fun l => .pure _) K r e
  · cases e
theorem det_mkIfc (P : Program) (t : TypeId) (x : AC) : Det (β := β) (mkIfc P t x) := by
  intro K r e
  unfold mkIfc at e ⊢
  split at e
  · split at e
    · exact ⟨_, fun _ => rfl⟩
    · exact ((Det.opt _).bind fun l => .pure _) K r e
  · cases e
theorem det_ifcK {γ : Type} (x : AC) {g : TypeId → AC → (γ → Option β) → Option β} (hg : ∀ t y, Det (g t y)) : Det (β := β) fun K => ifcK x fun t y => g t y K := by
  intro K r e
  unfold ifcK at e ⊢
  split at e
  · exact hg _ _ K r e
  · exact ((Det.opt _).bind fun y => hg _ y) K r e
  · cases e
theorem det_assertK (P : Program) (x : AC) (t : TypeId) : Det (β := β) (assertK P x t) := by
  intro K r e
  unfold assertK at e ⊢
  split at e
  · exact (det_ifcK x fun t' y => Det.if _ (.pure y)) K r e
  · cases e
theorem det_hiK (C : Cfg) (fr : Fr) (hi : Option Operand) (c len : Nat) : Det (β := β) (hiK C fr hi c len) := by
  cases hi with
  | none => exact .pure len
  | some o => exact (det_evalC C fr o).bind fun x => (det_int x).bind fun n => Det.cond _ (.pure _) .none
theorem det_loK (C : Cfg) (fr : Fr) (lo : Option Operand) (c : Nat) : Det (β := β) (loK C fr lo c) := by
  cases lo with
  | none => exact .pure 0
  | some o => exact (det_evalC C fr o).bind fun x => (det_int x).bind fun n => Det.cond _ (.pure _) .none
theorem det_lenK (P : Program) (argTypes : Array TypeId) (x : AC) : Det (β := β) (lenK P argTypes x) := by
  unfold lenK
  refine (Det.opt _).bind fun t => ?_
  intro K r e
  simp only at e ⊢
  split at e <;> first | exact ⟨_, fun _ => rfl⟩ | cases e
theorem det_minMaxK (big : Bool) (l : List AC) : Det (β := β) (minMaxK big l) := by
  intro K r e
  unfold minMaxK at e ⊢
  split at e
  · exact ((Det.opt _).bind fun n => .pure _) K r e
  · cases e
end Ev

namespace Ev
open Go
variable {β : Type}
theorem getK_same {γ : Type} {l l2 : List γ} {n : Nat} (h : l2[n]? = l[n]?) (K : γ → Option β) : getK l2 n none K = getK l n none K := by
  have key : ∀ (l : List γ) (n : Nat), getK l n none K = (match l[n]? with | some x => K x | none => none) := by
    intro l
    induction l with
    | nil => intro n; simp [getK]
    | cons x l ih =>
      intro n
      cases n with
      | zero => simp [getK]
      | succ n => simp [getK, ih n]
  rw [key, key, h]

theorem det_loadK (P : Program) (h : Heap) (t : TypeId) (a : AC) : Det (β := β) (loadK P h t a) := by
  intro K r e
  unfold loadK at e ⊢
  split at e
  · exact ((Det.get h _).bind fun b => Det.opt _) K r e
  · exact ((Det.get h _).bind fun b => Det.opt _) K r e
  · cases e
theorem det_indexAddrK (P : Program) (h : Heap) (t : TypeId) (a : AC) (n : Int) : Det (β := β) (indexAddrK P h t a n) := by
  intro K r e
  unfold indexAddrK at e ⊢
  split at e
  · exact ((Det.opt _).bind fun ei => (Det.get h _).bind fun b => Det.if _ (Det.cond _ (.pure _) .none)) K r e
  · exact ((Det.opt _).bind fun ei => Det.cond _ (.pure _) .none) K r e
  · exact ((Det.opt _).bind fun ei => Det.if _ (Det.cond _ (.pure _) .none)) K r e
  · exact ((Det.opt _).bind fun ei => Det.if _ (Det.cond _ (.pure _) .none)) K r e
  · cases e

theorem evalC_of {C : Cfg} {fr : Fr} {x : Operand} {y : AC} (h : Ev1 C fr x (.ac y)) (K : AC → Option β) : evalC C fr x K = K y := by
  unfold evalC evalK
  cases x with
  | tmp t =>
    have h : fr[t]? = some (.ac y) := h
    simp only [getK_at' h]
  | const v => obtain ⟨z, h1, h2⟩ := h; cases h2; simp [optK, h1]
  | global g => obtain ⟨i, h1, h2⟩ := h; cases h2; simp [optK, h1]
  | func f => cases h; rfl

theorem Ev1.same {C : Cfg} {fr : Fr} {x : Operand} {a b : AV} (h : Ev1 C fr x a) (k : Ev1 C fr x b) : a = b := by
  cases x with
  | tmp t => exact Option.some.inj ((show fr[t]? = some a from h).symm.trans k)
  | const v => obtain ⟨z, h1, h2⟩ := h; obtain ⟨u, h3, h4⟩ := k; rw [h1] at h3; cases h3; rw [h2, h4]
  | global g => obtain ⟨z, h1, h2⟩ := h; obtain ⟨u, h3, h4⟩ := k; rw [h1] at h3; cases h3; rw [h2, h4]
  | func f => exact (show a = _ from h).trans (show b = _ from k).symm

theorem indexAddrK_same {P : Program} {h h2 : Heap} {t : TypeId} {i off : Nat} {n : Int} (hb : h2[i]? = h[i]?) (K : AC → Option β) : indexAddrK P h2 t (.one (.ptr i off)) n K = indexAddrK P h t (.one (.ptr i off)) n K := by
  unfold indexAddrK
  cases P.underlying t with
  | none => rfl
  | some d =>
    cases d <;> first | rfl | skip
    rename_i len e
    show optK (P.info? e) _ = optK (P.info? e) _
    cases P.info? e with
    | none => rfl
    | some ei => exact getK_same hb _

theorem det_sliceK (C : Cfg) (fr : Fr) (h : Heap) (t : TypeId) (x : AC) (lo hi : Option Operand) : Det (β := β) (sliceK C fr h t x lo hi) := by
  intro K r e
  unfold sliceK at e ⊢
  split at e
  · exact ((det_hiK C fr hi _ _).bind fun b => (det_loK C fr lo b).bind fun a => .pure _) K r e
  · exact ((Det.opt _).bind fun ei => (det_hiK C fr hi _ _).bind fun b => (det_loK C fr lo b).bind fun a => .pure _) K r e
  · exact ((Det.opt _).bind fun ei => Det.if _ ((det_hiK C fr hi _ _).bind fun b => (det_loK C fr lo b).bind fun a => .pure _)) K r e
  · exact ((Det.opt _).bind fun ei => Det.if _ ((det_hiK C fr hi _ _).bind fun b => (det_loK C fr lo b).bind fun a => .pure _)) K r e
  · exact ((Det.opt _).bind fun ei => (Det.get h _).bind fun bl => Det.if _ ((det_hiK C fr hi _ _).bind fun b => (det_loK C fr lo b).bind fun a => .pure _)) K r e
  · cases e

theorem det_strIdK (x : AC) : Det (β := β) (strIdK x) := by
  intro K r e
  unfold strIdK at e ⊢
  split at e
  · exact ⟨_, fun _ => rfl⟩
  · cases e

theorem sliceK_same {C : Cfg} {fr : Fr} {h h2 : Heap} {t : TypeId} {x : AC} {lo hi : Option Operand} (hb : ∀ i off, x = .one (.ptr i off) → h2[i]? = h[i]?) (K : AC → Option β) : sliceK C fr h2 t x lo hi K = sliceK C fr h t x lo hi K := by
  unfold sliceK
  split <;> first | rfl | skip
  rename_i n e i off hu
  cases C.P.info? e with
  | none => rfl
  | some ei => exact getK_same (hb i off rfl) _

theorem indexAddrK_same' {P : Program} {h h2 : Heap} {t : TypeId} {x : AC} {n : Int} (hb : ∀ i off, x = .one (.ptr i off) → h2[i]? = h[i]?) (K : AC → Option β) : indexAddrK P h2 t x n K = indexAddrK P h t x n K := by
  unfold indexAddrK
  split <;> first | rfl | skip
  rename_i n e i off hu
  cases P.info? e with
  | none => rfl
  | some ei => exact getK_same (hb i off rfl) _

/-- what a reader answers is the same at every heap that has the block it reads -/
theorem evOp_det {C : Cfg} {call : Call β} {o : Oper} {fr : Fr} {h : Heap} {K : KR β} {r : β} {κ : Option Nat} (hk : rk C o fr = some κ) (e : evOp C call o fr h K = some r) :
    ∃ x, ∀ (h2 : Heap), (∀ b, κ = some b → h2[b]? = h[b]?) → ∀ K' : KR β, evOp C call o fr h2 K' = K' x h2 [] false := by
  unfold rk at hk
  unfold evOp at e ⊢
  cases hop : o.op with
  | move x =>
    simp only [hop] at e ⊢
    obtain ⟨y, hy⟩ := det_use (f := fun K => evalK C fr x K) (det_evalK C fr x) e
    exact ⟨y, fun h2 _ K' => hy h2 K'⟩
  | assign x =>
    simp only [hop] at e ⊢
    obtain ⟨y, hy⟩ := det_use (f := fun K => evalK C fr x K) (det_evalK C fr x) e
    exact ⟨y, fun h2 _ K' => hy h2 K'⟩
  | pick c a b =>
    simp only [hop] at e ⊢
    obtain ⟨y, hy⟩ := det_use (f := fun K => evalC C fr c fun t => boolK t fun t => evalK C fr a fun x => evalK C fr b fun y => cond t (K x) (K y))
      ((det_evalC C fr c).bind fun t => (det_bool t).bind fun t => (det_evalK C fr a).bind fun x => (det_evalK C fr b).bind fun y => Det.cond t (.pure _) (.pure _)) e
    exact ⟨y, fun h2 _ K' => hy h2 K'⟩
  | binOp op t x y z =>
    simp only [hop] at e ⊢
    obtain ⟨y, hy⟩ := det_use (f := fun K => evalC C fr x fun a => evalC C fr y fun b => binA C.P op t (if litOp x then true else litOp y) a b K)
      ((det_evalC C fr x).bind fun a => (det_evalC C fr y).bind fun b => det_binA _ _ _ _ _ _) e
    exact ⟨y, fun h2 _ K' => hy h2 K'⟩
  | unOp op t x =>
    simp only [hop] at e ⊢
    obtain ⟨y, hy⟩ := det_use (f := fun K => evalC C fr x fun a => unA op a K) ((det_evalC C fr x).bind fun a => det_unA _ _) e
    exact ⟨y, fun h2 _ K' => hy h2 K'⟩
  | convert src dst x =>
    simp only [hop] at e hk ⊢
    have h1 : isByteSl C.P src = false := by cases h : isByteSl C.P src <;> simp_all
    have h2 : isByteSl C.P dst = false := by cases h : isByteSl C.P dst <;> simp_all
    have hc : ∀ (a : AC) (h' : Heap) (K' : KR β), convK C.P h' src dst a K' = (if isStrTy C.P dst then (if isStrTy C.P src then strIdK a fun y => K' (.ac y) h' [] false else none) else convA C.P src dst a fun y => K' y h' [] false) := fun a h' K' => by
      unfold convK; simp only [h1, h2, Bool.false_eq_true, if_false]
    simp only [hc] at e ⊢
    obtain ⟨y, hy⟩ := det_use (f := fun (K : AV → Option β) => evalC C fr x fun a => (if isStrTy C.P dst then (if isStrTy C.P src then strIdK a fun y => K (.ac y) else none) else convA C.P src dst a K)) ((det_evalC C fr x).bind fun a => Det.ite _ (Det.ite _ ((det_strIdK a).bind fun y => .pure _) .none) (det_convA _ _ _ _)) e
    exact ⟨y, fun h2 _ K' => hy h2 K'⟩
  | build t parts =>
    simp only [hop] at e ⊢
    obtain ⟨y, hy⟩ := det_use (f := fun K => partsK C fr parts.toList fun ps => buildK C.P t ps fun z => K (.ac z)) ((det_partsK C fr _).bind fun ps => (det_buildK _ _ _).bind fun z => .pure _) e
    exact ⟨y, fun h2 _ K' => hy h2 K'⟩
  | makeInterface t x =>
    simp only [hop] at e ⊢
    obtain ⟨y, hy⟩ := det_use (f := fun K => evalC C fr x fun a => mkIfc C.P t a fun z => K (.ac z)) ((det_evalC C fr x).bind fun a => (det_mkIfc _ _ _).bind fun z => .pure _) e
    exact ⟨y, fun h2 _ K' => hy h2 K'⟩
  | typeAssert x xt t ok =>
    cases ok with
    | true => simp only [hop] at hk; cases hk
    | false =>
      simp only [hop] at e ⊢
      obtain ⟨y, hy⟩ := det_use (f := fun K => evalC C fr x fun a => assertK C.P a t fun z => K (.ac z)) ((det_evalC C fr x).bind fun a => (det_assertK _ _ _).bind fun z => .pure _) e
      exact ⟨y, fun h2 _ K' => hy h2 K'⟩
  | slice t x lo hi mx =>
    cases mx with
    | some m => simp only [hop] at hk; cases hk
    | none =>
      simp only [hop] at e hk ⊢
      obtain ⟨y, hy, e1⟩ := evalC_inv e
      obtain ⟨y', hy', hk1⟩ := evalC_inv hk
      have hyy := Ev1.same hy' hy
      simp only [AV.ac.injEq] at hyy
      subst hyy
      obtain ⟨z, hz⟩ := det_sliceK C fr h t y' lo hi _ r e1
      refine ⟨.ac z, fun h2 hb K' => ?_⟩
      rw [evalC_of hy]
      have hl : sliceK C fr h2 t y' lo hi (fun z => K' (.ac z) h2 [] false) = sliceK C fr h t y' lo hi (fun z => K' (.ac z) h2 [] false) := by
        refine sliceK_same (fun i off hx => ?_) _
        subst hx
        simp only [rkS, Option.some.injEq] at hk1
        exact hb i hk1.symm
      rw [hl]; exact hz _
  | call c =>
    simp only [hop] at e hk ⊢
    cases hcal : c.callee with
    | value f => simp only [hcal] at hk; cases hk
    | invoke r m => simp only [hcal] at hk; cases hk
    | builtin b =>
      simp only [hcal] at e hk ⊢
      have key : ∀ (f : List AC → (AC → Option β) → Option β), (∀ l, Det (f l)) → (∀ l (h' : Heap) (K' : KR β), builtinK C.P h' b c.argTypes l K' = f l fun z => K' (.ac z) h' [] false) →
          ∃ x, ∀ (h2 : Heap), (∀ b, κ = some b → h2[b]? = h[b]?) → ∀ K' : KR β, (evalsK C fr c.args.toList fun args => builtinK C.P h2 b c.argTypes args K') = K' x h2 [] false := by
        intro f hf hfe
        simp only [hfe] at e ⊢
        obtain ⟨y, hy⟩ := det_use (f := fun K => evalsK C fr c.args.toList fun args => f args fun z => K (.ac z)) ((det_evalsK C fr _).bind fun l => (hf l).bind fun z => .pure _) e
        exact ⟨y, fun h2 _ K' => hy h2 K'⟩
      cases b
      case len =>
        refine key (fun l K => match l with | [x] => lenK C.P c.argTypes x K | _ => none) (fun l => ?_) (fun l h' K' => ?_)
        · intro K r e
          split at e
          · exact det_lenK _ _ _ K r e
          · cases e
        · unfold builtinK
          cases l with
          | nil => rfl
          | cons x l => cases l <;> rfl
      case min => exact key (fun l K => minMaxK false l K) (fun l => det_minMaxK _ _) (fun l h' K' => by unfold builtinK; rfl)
      case max => exact key (fun l K => minMaxK true l K) (fun l => det_minMaxK _ _) (fun l h' K' => by unfold builtinK; rfl)
      all_goals cases hk
  | fieldAddr s x f =>
    simp only [hop] at e ⊢
    obtain ⟨y, hy⟩ := det_use (f := fun K => fieldK C.P s f fun fd => evalC C fr x fun a => fieldAddrK C.P fd a fun z => K (.ac z))
      ((det_fieldK _ _ _).bind fun fd => (det_evalC C fr x).bind fun a => (det_fieldAddr _ _ _).bind fun z => .pure _) e
    exact ⟨y, fun h2 _ K' => hy h2 K'⟩
  | index t x ix =>
    simp only [hop] at e ⊢
    obtain ⟨y, hy⟩ := det_use (f := fun K => evalC C fr x fun a => evalC C fr ix fun n => intK n fun n => indexK C.P t a n fun z => K (.ac z))
      ((det_evalC C fr x).bind fun a => (det_evalC C fr ix).bind fun n => (det_int n).bind fun n => (det_indexK _ _ _ _).bind fun z => .pure _) e
    exact ⟨y, fun h2 _ K' => hy h2 K'⟩
  | nilCheck x =>
    simp only [hop] at e ⊢
    obtain ⟨y, hy⟩ := det_use (f := fun (K : AV → Option β) => evalC C fr x fun z => match z with
        | .one z => optK (isNil z) fun b => if b then none else K (.ac (.one z))
        | _ => none)
      ((det_evalC C fr x).bind (g := fun (z : AC) (K : AV → Option β) => match z with
        | .one z => optK (isNil z) fun b => if b then none else K (.ac (.one z))
        | _ => none) fun z => by
          cases z with
          | one z => exact (Det.opt _).bind fun b => Det.ite (b = true) .none (.pure _)
          | agg l => exact .none) e
    exact ⟨y, fun h2 _ K' => hy h2 K'⟩
  | field s x f =>
    simp only [hop] at e ⊢
    obtain ⟨y, hy⟩ := det_use (f := fun (K : AV → Option β) => fieldK C.P s f fun fd => evalC C fr x fun z => match z with
        | .agg l => optK (loadS C.P fd.type l fd.offset) fun z => K (.ac z)
        | _ => none)
      ((det_fieldK _ _ _).bind fun fd => (det_evalC C fr x).bind (g := fun (z : AC) (K : AV → Option β) => match z with
        | .agg l => optK (loadS C.P fd.type l fd.offset) fun z => K (.ac z)
        | _ => none) fun z => by
          cases z with
          | one z => exact .none
          | agg l => exact (Det.opt _).bind fun z => .pure _) e
    exact ⟨y, fun h2 _ K' => hy h2 K'⟩
  | extract t ix =>
    simp only [hop] at e ⊢
    obtain ⟨y, hy⟩ := det_use (f := fun (K : AV → Option β) => evalK C fr t fun z => match z with
        | .tup l => optK l[ix]? fun z => K (.ac z)
        | _ => none)
      ((det_evalK C fr t).bind (g := fun (z : AV) (K : AV → Option β) => match z with
        | .tup l => optK l[ix]? fun z => K (.ac z)
        | _ => none) fun z => by
          cases z with
          | ac z => exact .none
          | top => exact .none
          | tup l => exact (Det.opt _).bind fun z => .pure _) e
    exact ⟨y, fun h2 _ K' => hy h2 K'⟩
  | load t a =>
    simp only [hop] at e hk ⊢
    obtain ⟨y, hy, e1⟩ := evalC_inv e
    obtain ⟨y', hy', hk1⟩ := evalC_inv hk
    have hyy := Ev1.same hy' hy
    simp only [AV.ac.injEq] at hyy
    subst hyy
    obtain ⟨z, hz⟩ := det_loadK C.P h t y' _ r e1
    refine ⟨.ac z, fun h2 hb K' => ?_⟩
    rw [evalC_of hy]
    have hl : loadK C.P h2 t y' (fun z => K' (.ac z) h2 [] false) = loadK C.P h t y' (fun z => K' (.ac z) h2 [] false) := by
      unfold loadK
      unfold rkA at hk1
      split at hk1
      · cases hk1; rw [getK_same (hb _ rfl)]
      · cases hk1; rw [getK_same (hb _ rfl)]
      · cases hk1
    rw [hl]; exact hz _
  | indexAddr t a ix =>
    simp only [hop] at e hk ⊢
    obtain ⟨y, hy, e1⟩ := evalC_inv e
    obtain ⟨y', hy', hk1⟩ := evalC_inv hk
    have hyy := Ev1.same hy' hy
    simp only [AV.ac.injEq] at hyy
    subst hyy
    obtain ⟨u, hu, e2⟩ := evalC_inv e1
    unfold intK at e2
    split at e2
    · rename_i k n
      obtain ⟨z, hz⟩ := det_indexAddrK C.P h t y' n _ r e2
      refine ⟨.ac z, fun h2 hb K' => ?_⟩
      rw [evalC_of hy, evalC_of hu]
      show indexAddrK C.P h2 t y' n (fun z => K' (.ac z) h2 [] false) = _
      have hl : indexAddrK C.P h2 t y' n (fun z => K' (.ac z) h2 [] false) = indexAddrK C.P h t y' n (fun z => K' (.ac z) h2 [] false) := by
        refine indexAddrK_same' (fun i off hx => ?_) _
        subst hx
        simp only [rkS, Option.some.injEq] at hk1
        exact hb i hk1.symm
      rw [hl]; exact hz _
    · cases e2
  | makeFunc f first caps =>
    cases f with
    | func g =>
      simp only [hop] at e ⊢
      obtain ⟨y, hy⟩ := det_use (f := fun (K : AV → Option β) => ifK first.isEmpty (evalsK C fr caps.toList fun l => optK (onesOf l) fun cs => K (.ac (.one (.fn g cs)))))
        (Det.if _ ((det_evalsK C fr _).bind fun l => (Det.opt _).bind fun cs => .pure _)) e
      exact ⟨y, fun h2 _ K' => hy h2 K'⟩
    | _ => simp only [hop] at hk; cases hk
  | _ => simp only [hop] at hk; cases hk
end Ev

namespace Ev
open Go

/-! ## A region -/
def putF (fr : Fr) (dst : Option Tmp) (x : AV) : Fr :=
  match dst with
  | some d => fr.set d x
  | none => fr

theorem putK_eq {β : Type} {fr : Fr} {dst : Option Tmp} {x : AV} {K : Fr → Option β} : putK fr dst x K = K (putF fr dst x) := by
  cases dst with
  | none => rfl
  | some d => simp [putK, putF, setK_eq]

/-- the slot that a guard looks at -/
def gslot (ops : Array Oper) (o : Oper) : Option Tmp :=
  match o.guard with
  | some (g, _) => (ops[g]?).bind (·.dst)
  | none => none

/-- whether the operation is wanted, seen off the frame -/
def GuardS (ops : Array Oper) (o : Oper) (fr : Fr) (b : Bool) : Prop :=
  ∀ (α : Nat → Loc) (a : Act), (∀ t, gslot ops o = some t → ∀ av, fr[t]? = some av → ∃ v, a.tmps[t]? = some v ∧ AVV α av v) → Region.wanted o (yielded ops a.tmps) = b

theorem set_same {α : Type} : ∀ {l : List α} {n : Nat} {x : α}, l[n]? = some x → l.set n x = l
  | [], n, x, h => by simp at h
  | y :: l, 0, x, h => by simp at h; simp [h]
  | y :: l, n + 1, x, h => by simp at h; simp [set_same h]

theorem guardK_inv {β : Type} {ops : Array Oper} {fr : Fr} {o : Oper} {yes no : Fr → Option β} {r : β} (e : guardK ops.toList fr o yes no = some r) :
    (yes fr = some r ∧ GuardS ops o fr true) ∨ (no fr = some r ∧ GuardS ops o fr false) := by
  unfold guardK at e
  split at e
  · rename_i hg
    exact .inl ⟨e, fun α a _ => by simp [Region.wanted, hg]⟩
  · rename_i j want hg
    obtain ⟨g, hgj, e1⟩ := getK_inv e
    have hgj : ops[j]? = some g := by simpa using hgj
    split at e1
    · rename_i d hd
      obtain ⟨av, hav, e2⟩ := getK_inv e1
      have key : ∀ (α : Nat → Loc) (a : Act), (∀ t, gslot ops o = some t → ∀ av, fr[t]? = some av → ∃ v, a.tmps[t]? = some v ∧ AVV α av v) → ∃ v, a.tmps[d]? = some v ∧ AVV α av v := fun α a h =>
        h d (by simp [gslot, hg, hgj, hd]) av hav
      split at e2
      · rename_i b
        have hw : ∀ (α : Nat → Loc) (a : Act), (∀ t, gslot ops o = some t → ∀ av, fr[t]? = some av → ∃ v, a.tmps[t]? = some v ∧ AVV α av v) → Region.wanted o (yielded ops a.tmps) = (b == want) := fun α a h => by
          obtain ⟨v, h1, h2⟩ := key α a h
          cases h2; rename_i h2; cases h2; rename_i h2; cases h2
          simp [Region.wanted, hg, yielded, hgj, hd, h1]
        rcases cond_inv e2 with ⟨rfl, e3⟩ | ⟨rfl, e3⟩ <;> rcases cond_inv e3 with ⟨rfl, e4⟩ | ⟨rfl, e4⟩ <;> rw [setK_eq, set_same hav] at e4
        · exact .inl ⟨e4, hw⟩
        · exact .inr ⟨e4, hw⟩
        · exact .inr ⟨e4, hw⟩
        · exact .inl ⟨e4, hw⟩
      · refine .inr ⟨e2, fun α a h => ?_⟩
        obtain ⟨v, h1, h2⟩ := key α a h
        cases h2; rename_i h2; cases h2
        simp [Region.wanted, hg, yielded, hgj, hd, h1]
      · cases e2
    · cases e1

/-- a reader is right at every heap that has the block it reads -/
def Rob (C : Cfg) (o : Oper) (fr : Fr) (h : Heap) (x : AV) (κ : Option (Option Nat)) : Prop :=
  ∀ k, κ = some k → ∀ h2 : Heap, (∀ b, k = some b → h2[b]? = h[b]?) → OpS C o fr h2 x h2 [] false

theorem evOp_rob {β : Type} {C : Cfg} (P : ProgOk C.P) {call : Call β} (hc : CallOk C call) {o : Oper} {fr : Fr} {h : Heap} {K : KR β} {r : β} {k : Option Nat} (hk : rk C o fr = some k) (e : evOp C call o fr h K = some r) :
    ∃ x, K x h [] false = some r ∧ ∀ h2 : Heap, (∀ b, k = some b → h2[b]? = h[b]?) → OpS C o fr h2 x h2 [] false := by
  obtain ⟨x, hx⟩ := evOp_det hk e
  refine ⟨x, (hx h (fun _ _ => rfl) K).symm.trans e, fun h2 hb => ?_⟩
  classical
  have h1 := hx h2 hb (fun x' h' ws l => if x' = x ∧ h' = h2 ∧ ws = [] ∧ l = false then some r else none)
  rw [if_pos ⟨rfl, rfl, rfl, rfl⟩] at h1
  obtain ⟨x', h', ws, l, h3, h4⟩ := evOp_ok P hc h1
  split at h3
  · rename_i hh
    obtain ⟨rfl, rfl, rfl, rfl⟩ := hh
    exact h4
  · cases h3

/-- one operation's part of a walk in the text's order -/
inductive StepJ (C : Cfg) (ops : Array Oper) (o : Oper) (s : St) : AV → FI → St → Prop where
  | run (x : AV) (h' : Heap) (ws : List Nat) (l : Bool) : GuardS ops o s.fr true → OpS C o s.fr s.h x h' ws l → Rob C o s.fr s.h x (rk C o s.fr) →
      StepJ C ops o s x ⟨l, rk C o s.fr, ws, s.h.length⟩ ⟨putF s.fr o.dst x, h', unionN ws s.ws⟩
  | skip : GuardS ops o s.fr false → StepJ C ops o s undefA ⟨false, some none, [], 0⟩ { s with fr := putF s.fr o.dst undefA }

inductive Tr (C : Cfg) (ops : Array Oper) : List Oper → St → List FI → St → Prop where
  | nil (s : St) : Tr C ops [] s [] s
  | cons {o : Oper} {r : List Oper} {s s' s'' : St} {x : AV} {l : FI} {fl : List FI} : StepJ C ops o s x l s' → Tr C ops r s' fl s'' → Tr C ops (o :: r) s (l :: fl) s''

theorem evOps_inv {β : Type} {C : Cfg} (P : ProgOk C.P) {call : Call β} (hc : CallOk C call) {ops : Array Oper} : ∀ {rest : List Oper} {s : St} {fl : List FI} {K : St → List FI → Option β} {r : β},
    evOps C call ops.toList rest s fl K = some r → ∃ s' fl', K s' (fl'.reverse ++ fl) = some r ∧ Tr C ops rest s fl' s'
  | [], s, fl, K, r, e => ⟨s, [], e, .nil s⟩
  | o :: rest, s, fl, K, r, e => by
    simp only [evOps] at e
    rcases guardK_inv e with ⟨e1, hg⟩ | ⟨e1, hg⟩
    · cases hk : rk C o s.fr with
      | none =>
        obtain ⟨x, h', ws, l, e2, hop⟩ := evOp_ok P hc e1
        rw [putK_eq] at e2
        obtain ⟨s', fl', e3, ht⟩ := evOps_inv P hc e2
        exact ⟨s', _ :: fl', by simpa using e3, .cons (.run x h' ws l hg hop (fun k h => by rw [hk] at h; cases h)) ht⟩
      | some k =>
        obtain ⟨x, e2, hall⟩ := evOp_rob P hc hk e1
        rw [putK_eq] at e2
        obtain ⟨s', fl', e3, ht⟩ := evOps_inv P hc e2
        exact ⟨s', _ :: fl', by simpa using e3, .cons (.run x _ _ _ hg (hall s.h (fun _ _ => rfl)) (fun k' h => by rw [hk] at h; cases h; exact hall)) ht⟩
    · rw [putK_eq] at e1
      obtain ⟨s', fl', e3, ht⟩ := evOps_inv P hc e1
      exact ⟨s', _ :: fl', by simpa using e3, .cons (s' := { s with fr := putF s.fr o.dst undefA }) (.skip hg) ht⟩

/-! ### what a state says of a frame and a world -/
structure Rel (C : Cfg) (α0 : Nat → Loc) (h0 : Heap) (w0 : World) (α : Nat → Loc) (s : St) (a : Act) (w : World) : Prop where
  stp : Stp α0 h0 w0 α s.h w
  sat : Sat α s.h w
  slot : ∀ (t : Nat) av, s.fr[t]? = some av → ∃ v, a.tmps[t]? = some v ∧ AVV α av v
  wf : ∀ (t : Nat) av, s.fr[t]? = some av → avWF s.h av
  hwf : heapWF s.h
  gl : Glob C α s.h
  wr : ∀ (i : Nat), i ∉ s.ws → i < h0.length → s.h[i]? = h0[i]?
  df : a.defers = []

theorem Rel.hyp {C : Cfg} {α0 : Nat → Loc} {h0 : Heap} {w0 : World} {α : Nat → Loc} {s : St} {a : Act} {w : World} (R : Rel C α0 h0 w0 α s a w) (xs : List Operand) : Hyp C xs s.fr s.h α w a :=
  ⟨fun t _ => R.slot t, fun t _ => R.wf t, R.hwf, R.gl, R.sat⟩

theorem memN_iff {x : Nat} {l : List Nat} : memN x l = true ↔ x ∈ l := by
  induction l with
  | nil => simp [memN]
  | cons y l ih =>
    simp only [memN]
    split
    · rename_i h; have := Nat.eq_of_beq_eq_true h; simp [this]
    · rename_i h
      rw [ih, List.mem_cons]
      constructor
      · exact .inr
      · rintro (rfl | h')
        · simp at h
        · exact h'

theorem mem_insN {x y : Nat} {l : List Nat} : x ∈ insN y l ↔ x = y ∨ x ∈ l := by
  unfold insN
  split
  · rename_i h
    have := memN_iff.1 h
    constructor
    · exact .inr
    · rintro (rfl | h')
      · exact this
      · exact h'
  · simp

theorem mem_unionN {x : Nat} {l m : List Nat} : x ∈ unionN l m ↔ x ∈ l ∨ x ∈ m := by
  induction l with
  | nil => simp [unionN]
  | cons y l ih => simp [unionN, mem_insN, ih, or_assoc]

theorem putF_get {fr : Fr} {dst : Option Tmp} {x : AV} {t : Nat} {av : AV} (h : (putF fr dst x)[t]? = some av) : (dst = some t ∧ av = x) ∨ (dst ≠ some t ∧ fr[t]? = some av) := by
  cases dst with
  | none => exact .inr ⟨by simp, h⟩
  | some d =>
    simp only [putF] at h
    rw [List.getElem?_set] at h
    split at h
    · rename_i hd; subst hd
      split at h
      · cases h; exact .inl ⟨rfl, rfl⟩
      · cases h
    · rename_i hd; exact .inr ⟨fun h' => hd (by cases h'; rfl), h⟩

/-- the slots of a frame behind a put -/
theorem slot_put {α : Nat → Loc} {fr : Fr} {a : Act} {dst : Option Tmp} {x : AV} {v : Value} (hs : ∀ (t : Nat) av, fr[t]? = some av → ∃ v, a.tmps[t]? = some v ∧ AVV α av v) (hx : AVV α x v) :
    ∀ (t : Nat) av, (putF fr dst x)[t]? = some av → ∃ u, (a.put dst v).tmps[t]? = some u ∧ AVV α av u := by
  intro t av h
  cases dst with
  | none => exact hs t av h
  | some d =>
    rcases putF_get h with ⟨hd, rfl⟩ | ⟨hd, h⟩
    · have hd : d = t := by cases hd; rfl
      subst hd
      have hlt : d < fr.length := by
        have := lt_of_get h; simpa [putF] using this
      obtain ⟨u, hu, _⟩ := hs d _ (List.getElem?_eq_getElem hlt)
      have hlt' : d < a.tmps.size := by
        rcases Nat.lt_or_ge d a.tmps.size with h' | h'
        · exact h'
        · rw [Array.getElem?_eq_none h'] at hu; cases hu
      exact ⟨v, by simp [Act.put, hlt'], hx⟩
    · obtain ⟨u, hu, hav⟩ := hs t av h
      refine ⟨u, ?_, hav⟩
      have : d ≠ t := fun e => hd (by rw [e])
      simp [Act.put, Array.getElem?_setIfInBounds_ne this, hu]

theorem Rel.step {C : Cfg} {α0 : Nat → Loc} {h0 : Heap} {w0 : World} {α : Nat → Loc} {s : St} {a : Act} {w : World} (R : Rel C α0 h0 w0 α s a w) {α' : Nat → Loc} {h' : Heap} {w' : World} {x : AV} {v : Value} {dst : Option Tmp} {ws : List Nat}
    (h1 : Stp α s.h w α' h' w') (h2 : Sat α' h' w') (h3 : AVV α' x v) (h4 : avWF h' x) (h5 : heapWF h') (h6 : ∀ i, i ∉ ws → i < s.h.length → h'[i]? = s.h[i]?) :
    Rel C α0 h0 w0 α' ⟨putF s.fr dst x, h', unionN ws s.ws⟩ (a.put dst v) w' where
  stp := R.stp.trans h1
  sat := h2
  slot := by
    have key : ∀ (t : Nat) av, s.fr[t]? = some av → ∃ v, a.tmps[t]? = some v ∧ AVV α' av v := fun t av ht => by
      obtain ⟨u, hu, hav⟩ := R.slot t av ht
      exact ⟨u, hu, h1.avV (R.wf t av ht) hav⟩
    intro t av ht
    exact slot_put (dst := dst) key h3 t av ht
  wf := fun t av ht => by
    rcases putF_get ht with ⟨_, rfl⟩ | ⟨_, ht⟩
    · exact h4
    · exact h1.avWF (R.wf t av ht)
  hwf := h5
  gl := R.gl.step h1
  wr := fun i hi hl => by
    have hi : ¬ (i ∈ ws ∨ i ∈ s.ws) := fun h => hi (mem_unionN.2 h)
    have hl' : i < s.h.length := Nat.lt_of_lt_of_le hl R.stp.length
    show h'[i]? = _
    rw [h6 i (fun h => hi (.inl h)) hl', R.wr i (fun h => hi (.inr h)) hl]
  df := by cases dst <;> exact R.df

theorem Rel.skip {C : Cfg} {α0 : Nat → Loc} {h0 : Heap} {w0 : World} {α : Nat → Loc} {s : St} {a : Act} {w : World} (R : Rel C α0 h0 w0 α s a w) (dst : Option Tmp) :
    Rel C α0 h0 w0 α { s with fr := putF s.fr dst undefA } (a.put dst undef) w where
  stp := R.stp
  sat := R.sat
  slot := by
    intro t av ht
    exact slot_put (dst := dst) R.slot (AVV.undef α) t av ht
  wf := fun t av ht => by
    rcases putF_get ht with ⟨_, rfl⟩ | ⟨_, ht⟩
    · intro x hx; cases hx
    · exact R.wf t av ht
  hwf := R.hwf
  gl := R.gl
  wr := R.wr
  df := by cases dst <;> exact R.df

/-- a region in the text's order -/
theorem Tr.wpOps {C : Cfg} {ops : Array Oper} {α0 : Nat → Loc} {h0 : Heap} {w0 : World} {Q : Exit → Act → World → Prop} : ∀ {rest : List Oper} {s s' : St} {fl : List FI} {i : Nat}, Tr C ops rest s fl s' → rest = ops.toList.drop i →
    (∀ α a w, Rel C α0 h0 w0 α s' a w → Q .normal a w) → ∀ α a w, Rel C α0 h0 w0 α s a w → Go.wpOps C.P ops Q (List.range' i rest.length) a w
  | [], s, s', fl, i, ht, hr, hQ, α, a, w, R => by
    cases ht; exact hQ α a w R
  | o :: rest, s, s', fl, i, ht, hr, hQ, α, a, w, R => by
    cases ht with
    | @cons _ _ _ s1 _ x l fl hstep ht =>
      have hio : ops[i]? = some o := by
        have : (ops.toList.drop i)[0]? = some o := by rw [← hr]; rfl
        simpa using this
      have hrest : rest = ops.toList.drop (i + 1) := by
        have : (o :: rest).drop 1 = (ops.toList.drop i).drop 1 := by rw [hr]
        simpa using this
      have ih := fun α a w R => Tr.wpOps (Q := Q) ht hrest hQ α a w R
      simp only [List.length_cons, List.range'_succ, Go.wpOps, hio]
      cases hstep with
      | run x h' ws l hg hop hrob =>
        rw [hg α a (fun t _ => R.slot t)]
        simp only [if_true]
        refine .inl (hop.run α w a (R.hyp _) _ _ fun α' w' v h1 h2 h3 h4 h5 => ?_)
        exact ih α' _ w' (R.step h1 h2 h3 h4 h5 hop.wr)
      | skip hg =>
        rw [hg α a (fun t _ => R.slot t)]
        simp only [Bool.false_eq_true, if_false]
        exact ih α _ w (R.skip o.dst)

end Ev

namespace Ev
open Go

/-! ## A region that draws its order -/
theorem Tr.seq {C : Cfg} {ops : Array Oper} : ∀ {rest : List Oper} {s s' : St} {fl : List FI}, Tr C ops rest s fl s' →
    ∃ (S : Nat → St) (X : Nat → AV) (F : Nat → FI), S 0 = s ∧ S rest.length = s' ∧ fl = (List.range rest.length).map F ∧
      ∀ j o, rest[j]? = some o → StepJ C ops o (S j) (X j) (F j) (S (j + 1))
  | [], s, s', fl, h => by
    cases h
    exact ⟨fun _ => s, fun _ => undefA, fun _ => ⟨false, none, [], 0⟩, rfl, rfl, rfl, fun j o hj => by simp at hj⟩
  | o :: rest, s, s', fl, h => by
    cases h with
    | @cons _ _ _ s1 _ x l fl hstep ht =>
      obtain ⟨S, X, F, h1, h2, h3, h4⟩ := Tr.seq ht
      refine ⟨fun j => match j with | 0 => s | j + 1 => S j, fun j => match j with | 0 => x | j + 1 => X j, fun j => match j with | 0 => l | j + 1 => F j, rfl, h2, ?_, ?_⟩
      · rw [h3]
        simp [List.range_succ_eq_map, Function.comp_def]
      · intro j o' hj
        cases j with
        | zero => simp at hj; subst hj; simp only [h1]; exact hstep
        | succ j => exact h4 j o' (by simpa using hj)

theorem StepJ.fr {C : Cfg} {ops : Array Oper} {o : Oper} {s s' : St} {x : AV} {l : FI} (h : StepJ C ops o s x l s') : s'.fr = putF s.fr o.dst x := by cases h <;> rfl
theorem StepJ.quiet {C : Cfg} {ops : Array Oper} {o : Oper} {s s' : St} {x : AV} {l : FI} (h : StepJ C ops o s x l s') (hl : l.l = false) : s'.h = s.h := by
  cases h with
  | run x h' ws l hg hop => exact hop.quiet hl
  | skip => rfl
/-- a block that an operation does not write -/
theorem StepJ.blk {C : Cfg} {ops : Array Oper} {o : Oper} {s s' : St} {x : AV} {l : FI} (h : StepJ C ops o s x l s') {b : Nat} (h1 : b ∉ l.ws) (h2 : b < l.n) : s'.h[b]? = s.h[b]? := by
  cases h with
  | run x h' ws l hg hop => exact hop.wr b h1 h2
  | skip => rfl

/-! ### the check -/
theorem pairOk_ok {ops : Array Oper} {j : Oper} {lj : FI} {pj : List Nat} : ∀ {ahead : List (Oper × FI)} {i : Nat}, pairOk ops j lj pj i ahead = true → ∀ k oi li, ahead[k]? = some (oi, li) →
    i + k ∈ pj ∨ (clash ops oi j = false ∧ besideB li lj = true)
  | [], i, h, k, oi, li, hk => by simp at hk
  | (o, l) :: r, i, h, k, oi, li, hk => by
    simp only [pairOk] at h
    split at h
    · rename_i hm
      cases k with
      | zero => exact .inl (memN_iff.1 hm)
      | succ k => have := pairOk_ok h k oi li (by simpa using hk); rwa [show i + 1 + k = i + (k + 1) by omega] at this
    · split at h
      · cases h
      · rename_i h1
        split at h
        · rename_i h2
          cases k with
          | zero =>
            simp at hk
            obtain ⟨rfl, rfl⟩ := hk
            exact .inr ⟨by simpa using h1, h2⟩
          | succ k => have := pairOk_ok h k oi li (by simpa using hk); rwa [show i + 1 + k = i + (k + 1) by omega] at this
        · cases h

theorem drawOkGo_ok {ops : Array Oper} : ∀ {r : List (Oper × FI)} {ahead : List (Oper × FI)} {ps : List (List Nat)}, drawOkGo ops ahead ps r = true → ∀ k o l, r[k]? = some (o, l) →
    ∃ p, ps[k]? = some p ∧ ∀ i oi li, (ahead ++ r)[i]? = some (oi, li) → i < ahead.length + k → i ∈ p ∨ (clash ops oi o = false ∧ besideB li l = true)
  | [], ahead, ps, h, k, o, l, hk => by simp at hk
  | (o', l') :: r, ahead, [], h, k, o, l, hk => by simp [drawOkGo] at h
  | (o', l') :: r, ahead, p :: ps, h, k, o, l, hk => by
    simp only [drawOkGo] at h
    split at h
    · rename_i hp
      cases k with
      | zero =>
        simp at hk
        obtain ⟨rfl, rfl⟩ := hk
        refine ⟨p, rfl, fun i oi li hi hlt => ?_⟩
        rw [List.getElem?_append_left (by omega)] at hi
        have := pairOk_ok hp i oi li hi
        simpa using this
      | succ k =>
        obtain ⟨p', h1, h2⟩ := drawOkGo_ok h k o l (by simpa using hk)
        refine ⟨p', by simpa using h1, fun i oi li hi hlt => h2 i oi li ?_ ?_⟩
        · simpa using hi
        · simp; omega
    · cases h

theorem allPreds_length : ∀ {l : List Oper} {acc : List (List Nat)}, (allPreds l acc).length = acc.length + l.length
  | [], acc => by simp [allPreds]
  | o :: l, acc => by simp only [allPreds]; rw [allPreds_length]; simp; omega

theorem allPreds_old : ∀ {l : List Oper} {acc : List (List Nat)} {j : Nat}, j < acc.length → (allPreds l acc)[j]? = acc[j]?
  | [], acc, j, _ => rfl
  | o :: l, acc, j, h => by
    simp only [allPreds]
    rw [allPreds_old (by simp; omega), List.getElem?_append_left h]

theorem allPreds_take : ∀ {l : List Oper} {acc : List (List Nat)}, (allPreds l acc).take acc.length = acc
  | l, acc => by
    apply List.ext_getElem?
    intro j
    rw [List.getElem?_take]
    split
    · rename_i h; exact allPreds_old h
    · rename_i h; rw [List.getElem?_eq_none (by omega)]

theorem allPreds_get : ∀ {l : List Oper} {acc : List (List Nat)} {k : Nat} {o : Oper}, l[k]? = some o → (allPreds l acc)[acc.length + k]? = some (predsOf ((allPreds l acc).take (acc.length + k)) o)
  | [], acc, k, o, h => by simp at h
  | o' :: l, acc, 0, o, h => by
    simp at h; subst h
    simp only [allPreds, Nat.add_zero]
    rw [allPreds_old (by simp)]
    have : (allPreds l (acc ++ [predsOf acc o'])).take acc.length = acc := by
      have := allPreds_take (l := l) (acc := acc ++ [predsOf acc o'])
      have h2 := congrArg (List.take acc.length) this
      rw [List.take_take] at h2
      simpa using h2
    rw [this]; simp
  | o' :: l, acc, k + 1, o, h => by
    simp only [allPreds]
    have := allPreds_get (l := l) (acc := acc ++ [predsOf acc o']) (k := k) (o := o) (by simpa using h)
    simp only [List.length_append, List.length_singleton] at this
    rwa [show acc.length + 1 + k = acc.length + (k + 1) by omega] at this

/-- a set that holds what must come ahead of each of its own holds all that must come ahead -/
theorem preds_closed {ops : Array Oper} {E : Nat → Prop} (hE : ∀ (j : Nat) (o : Oper), E j → ops[j]? = some o → ∀ e ∈ o.after, Region.binds .any e = true → E e.on) :
    ∀ (j : Nat) (p : List Nat), E j → (allPreds ops.toList [])[j]? = some p → ∀ i ∈ p, E i := by
  intro j
  induction j using Nat.strongRecOn with
  | _ j ih =>
    intro p hj hp i hi
    have hlt : j < ops.size := by have := lt_of_get hp; rw [allPreds_length] at this; simpa using this
    have hoj : ops.toList[j]? = some ops[j] := by simp [hlt]
    have := allPreds_get (acc := []) hoj
    simp only [List.length_nil, Nat.zero_add] at this
    rw [this] at hp
    cases hp
    unfold predsOf at hi
    obtain ⟨e, he, hi⟩ := List.mem_flatMap.1 hi
    obtain ⟨he, hb⟩ := List.mem_filter.1 he
    have hon : E e.on := hE j ops[j] hj (by simp [hlt]) e (by simpa using he) hb
    rcases List.mem_cons.1 hi with rfl | hi
    · exact hon
    · have hget : ((allPreds ops.toList []).take j)[e.on]? = some (((allPreds ops.toList []).take j).getD e.on []) := by
        cases hq : ((allPreds ops.toList []).take j)[e.on]? with
        | none => rw [List.getD_eq_getElem?_getD, hq] at hi; simp at hi
        | some q => rw [List.getD_eq_getElem?_getD, hq]; rfl
      rw [List.getElem?_take] at hget
      split at hget
      · rename_i hl
        exact ih e.on hl _ hon hget i hi
      · cases hget

theorem clash_false {ops : Array Oper} {i j : Oper} (h : clash ops i j = false) :
    (∀ d, i.dst = some d → d ∉ looks ops j) ∧ (∀ d, i.dst = some d → j.dst ≠ some d) ∧ (∀ d, j.dst = some d → d ∉ looks ops i) := by
  unfold clash at h
  split at h
  · rename_i d hd
    split at h
    · cases h
    · rename_i h1
      have h1 : d ∉ looks ops j := fun hm => h1 (memN_iff.2 hm)
      refine ⟨(fun d' hd' => by rw [hd] at hd'; cases hd'; exact h1), ?_⟩
      split at h
      · rename_i e he
        split at h
        · cases h
        · rename_i h2
          refine ⟨fun d' hd' hj => ?_, fun e' he' hm => ?_⟩
          · rw [hd] at hd'; cases hd'; rw [he] at hj; cases hj; simp at h2
          · rw [he] at he'; cases he'; rw [memN_iff.2 hm] at h; cases h
      · rename_i he
        exact ⟨(fun d' hd' hj => by rw [he] at hj; cases hj), (fun e' he' => by rw [he] at he'; cases he')⟩
  · rename_i hd
    refine ⟨(fun d' hd' => by rw [hd] at hd'; cases hd'), (fun d' hd' => by rw [hd] at hd'; cases hd'), fun e he hm => ?_⟩
    split at h
    · rename_i e' he'
      rw [he] at he'; cases he'; rw [memN_iff.2 hm] at h; cases h
    · rename_i he'; rw [he] at he'; cases he'

theorem looks_tmp {ops : Array Oper} {o : Oper} {t : Tmp} (h : Operand.tmp t ∈ o.op.operands.toList) : t ∈ looks ops o :=
  List.mem_append_left _ (List.mem_filterMap.2 ⟨_, h, rfl⟩)

theorem looks_guard {ops : Array Oper} {o : Oper} {t : Tmp} (h : gslot ops o = some t) : t ∈ looks ops o := by
  unfold gslot at h
  split at h
  · rename_i g b hg
    refine List.mem_append_right _ ?_
    simp only [hg]
    rw [h]; simp
  · cases h

/-! ### the frame behind a part of the operations -/
section
variable (ops : Array Oper) (X : Nat → AV) (E : Nat → Bool) (fr0 : Fr)

def fE : Nat → Fr
  | 0 => fr0
  | k + 1 => if E k then putF (fE k) ((ops[k]?).bind (·.dst)) (X k) else fE k
end

theorem putF_ne {fr : Fr} {dst : Option Tmp} {x : AV} {t : Nat} (h : dst ≠ some t) : (putF fr dst x)[t]? = fr[t]? := by
  cases dst with
  | none => rfl
  | some d => simp only [putF]; rw [List.getElem?_set_ne (fun e => h (by rw [e]))]

theorem putF_congr {fr fr' : Fr} {dst : Option Tmp} {x : AV} {t : Nat} (h : fr[t]? = fr'[t]?) (hl : fr.length = fr'.length) : (putF fr dst x)[t]? = (putF fr' dst x)[t]? := by
  cases dst with
  | none => exact h
  | some d =>
    simp only [putF]
    rw [List.getElem?_set, List.getElem?_set]
    split
    · rw [hl]
    · exact h

theorem putF_length {fr : Fr} {dst : Option Tmp} {x : AV} : (putF fr dst x).length = fr.length := by cases dst <;> simp [putF]

theorem fE_length {ops : Array Oper} {X : Nat → AV} {E : Nat → Bool} {fr0 : Fr} : ∀ k, (fE ops X E fr0 k).length = fr0.length
  | 0 => rfl
  | k + 1 => by
    simp only [fE]
    split
    · rw [putF_length]; exact fE_length k
    · exact fE_length k

/-- what is known of a region that may come up in any order -/
structure Dr (C : Cfg) (ops : Array Oper) (S : Nat → St) (X : Nat → AV) (F : Nat → FI) : Prop where
  step : ∀ (j : Nat) (o : Oper), ops[j]? = some o → StepJ C ops o (S j) (X j) (F j) (S (j + 1))
  ord : ∀ (i j : Nat) (oi oj : Oper), i < j → ops[i]? = some oi → ops[j]? = some oj → (∃ p, (allPreds ops.toList [])[j]? = some p ∧ i ∈ p) ∨ (clash ops oi oj = false ∧ besideB (F i) (F j) = true)

/-- a set of operations that may have been carried out -/
structure Down (ops : Array Oper) (E : Nat → Bool) : Prop where
  dir : ∀ (j : Nat) (o : Oper), E j = true → ops[j]? = some o → ∀ e ∈ o.after, Region.binds .any e = true → E e.on = true
  lt : ∀ j, E j = true → j < ops.size

theorem Down.pred {ops : Array Oper} {E : Nat → Bool} (D : Down ops E) {j : Nat} {p : List Nat} (hj : E j = true) (hp : (allPreds ops.toList [])[j]? = some p) {i : Nat} (hi : i ∈ p) : E i = true :=
  preds_closed (E := fun j => E j = true) D.dir j p hj hp i hi

section
variable {C : Cfg} {ops : Array Oper} {S : Nat → St} {X : Nat → AV} {F : Nat → FI} (D : Dr C ops S X F)
include D

theorem Dr.heap_eq {k k' : Nat} (hk : k ≤ k') (hn : k' ≤ ops.size) (hq : ∀ j, k ≤ j → j < k' → (F j).l = false) : (S k').h = (S k).h := by
  induction k' with
  | zero => have : k = 0 := by omega
            subst this; rfl
  | succ k' ih =>
    by_cases h : k = k' + 1
    · subst h; rfl
    · have hlt : k' < ops.size := by omega
      have hs := D.step k' ops[k'] (by simp [hlt])
      rw [hs.quiet (hq k' (by omega) (by omega))]
      exact ih (by omega) (by omega) fun j h1 h2 => hq j h1 (by omega)

theorem Dr.blk_eq {b : Nat} {k k' : Nat} (hk : k ≤ k') (hn : k' ≤ ops.size) (hq : ∀ j, k ≤ j → j < k' → (F j).l = true → b ∉ (F j).ws ∧ b < (F j).n) : (S k').h[b]? = (S k).h[b]? := by
  induction k' with
  | zero => have : k = 0 := by omega
            subst this; rfl
  | succ k' ih =>
    by_cases h : k = k' + 1
    · subst h; rfl
    · have hlt : k' < ops.size := by omega
      have hs := D.step k' ops[k'] (by simp [hlt])
      have ih := ih (by omega) (by omega) fun j h1 h2 => hq j h1 (by omega)
      rw [← ih]
      cases hl : (F k').l with
      | false => rw [hs.quiet hl]
      | true =>
        obtain ⟨h1, h2⟩ := hq k' (by omega) (by omega) hl
        exact hs.blk h1 h2

/-- those that are not beside the ready q are carried out just if they stand ahead -/
theorem Dr.either {E : Nat → Bool} (hE : Down ops E) {q : Nat} {oq : Oper} (hq : ops[q]? = some oq) (hnot : E q = false) (hpre : ∀ p, (allPreds ops.toList [])[q]? = some p → ∀ i ∈ p, E i = true)
    {j : Nat} {oj : Oper} (hj : ops[j]? = some oj) (hjq : j ≠ q) :
    (j < q ∧ (E j = true ∨ (clash ops oj oq = false ∧ besideB (F j) (F q) = true))) ∨ (q < j ∧ (E j = false ∨ (clash ops oq oj = false ∧ besideB (F q) (F j) = true))) := by
  rcases Nat.lt_or_gt_of_ne hjq with h | h
  · refine .inl ⟨h, ?_⟩
    rcases D.ord j q _ _ h hj hq with ⟨p, hp, hi⟩ | h1
    · exact .inl (hpre p hp j hi)
    · exact .inr h1
  · refine .inr ⟨h, ?_⟩
    rcases D.ord q j _ _ h hq hj with ⟨p, hp, hi⟩ | h1
    · left
      cases hEj : E j with
      | false => rfl
      | true => have := hE.pred hEj hp hi; rw [hnot] at this; cases this
    · exact .inr h1

/-- two loud ones -/
theorem Dr.loud_iff {E : Nat → Bool} (hE : Down ops E) {q : Nat} {oq : Oper} (hq : ops[q]? = some oq) (hnot : E q = false) (hpre : ∀ p, (allPreds ops.toList [])[q]? = some p → ∀ i ∈ p, E i = true)
    {j : Nat} (hj : j < ops.size) (hjq : j ≠ q) (hl : (F j).l = true) (hlq : (F q).l = true) : E j = true ↔ j < q := by
  have hoj : ops[j]? = some ops[j] := by simp [hj]
  have nb : besideB (F j) (F q) = false := by simp [besideB, hl, hlq]
  have nb' : besideB (F q) (F j) = false := by simp [besideB, hl, hlq]
  rcases D.either hE hq hnot hpre hoj hjq with ⟨h, h1⟩ | ⟨h, h1⟩
  · refine ⟨fun _ => h, fun _ => ?_⟩
    rcases h1 with h1 | ⟨_, h1⟩
    · exact h1
    · rw [nb] at h1; cases h1
  · refine ⟨fun hE1 => ?_, fun h' => by omega⟩
    rcases h1 with h1 | ⟨_, h1⟩
    · rw [h1] at hE1; cases hE1
    · rw [nb'] at h1; cases h1

/-- a loud one that is out of place beside the ready quiet q is one beside which it may stand -/
theorem Dr.sw {E : Nat → Bool} (hE : Down ops E) {q : Nat} {oq : Oper} (hq : ops[q]? = some oq) (hnot : E q = false) (hpre : ∀ p, (allPreds ops.toList [])[q]? = some p → ∀ i ∈ p, E i = true)
    {j : Nat} (hj : j < ops.size) (hjq : j ≠ q) (hl : (F j).l = true) (hlq : (F q).l = false) (hout : ¬ (E j = true ↔ j < q)) : swB (F q).k (F j).ws (F j).n = true := by
  have hoj : ops[j]? = some ops[j] := by simp [hj]
  rcases D.either hE hq hnot hpre hoj hjq with ⟨h, h1⟩ | ⟨h, h1⟩
  · rcases h1 with h1 | ⟨_, h1⟩
    · exact absurd ⟨fun _ => h, fun _ => h1⟩ hout
    · simpa [besideB, hl, hlq] using h1
  · rcases h1 with h1 | ⟨_, h1⟩
    · exact absurd ⟨fun h2 => (by rw [h1] at h2; cases h2), fun h2 => by omega⟩ hout
    · simpa [besideB, hl, hlq] using h1

/-- what a ready operation looks at is in its slot as in the text's order -/
theorem Dr.slot_eq {E : Nat → Bool} (hE : Down ops E) {q : Nat} {oq : Oper} (hq : ops[q]? = some oq) (hnot : E q = false) (hpre : ∀ p, (allPreds ops.toList [])[q]? = some p → ∀ i ∈ p, E i = true)
    {t : Nat} (ht : t ∈ looks ops oq) : (fE ops X E (S 0).fr ops.size)[t]? = (S q).fr[t]? := by
  have hqn : q < ops.size := (Array.getElem?_eq_some_iff.1 hq).1
  -- ahead of q
  have h1 : ∀ j, j ≤ q → (fE ops X E (S 0).fr j)[t]? = (S j).fr[t]? ∧ (S j).fr.length = (S 0).fr.length := by
    intro j hj
    induction j with
    | zero => exact ⟨rfl, rfl⟩
    | succ j ih =>
      obtain ⟨ih1, ih2⟩ := ih (by omega)
      have hjn : j < ops.size := by omega
      have hoj : ops[j]? = some ops[j] := by simp [hjn]
      have hs := D.step j _ hoj
      have hlen : (S (j + 1)).fr.length = (S 0).fr.length := by rw [hs.fr, putF_length, ih2]
      refine ⟨?_, hlen⟩
      simp only [fE]
      rw [hs.fr, hoj]
      simp only [Option.bind_some]
      cases hEj : E j with
      | true =>
        simp only [if_true]
        exact putF_congr ih1 (by rw [fE_length, ih2])
      | false =>
        simp only [Bool.false_eq_true, if_false]
        have hd : (ops[j]).dst ≠ some t := fun hd => by
          rcases D.ord j q _ _ (by omega) hoj hq with ⟨p, hp, hi⟩ | ⟨hc, _⟩
          · have := hpre p hp j hi; rw [hEj] at this; cases this
          · exact (clash_false hc).1 t hd ht
        rw [putF_ne hd]
        exact ih1
  -- behind q
  have h2 : ∀ k, q + k ≤ ops.size → (fE ops X E (S 0).fr (q + k))[t]? = (fE ops X E (S 0).fr q)[t]? := by
    intro k
    induction k with
    | zero => intro _; rfl
    | succ k ih =>
      intro hk
      have ih := ih (by omega)
      have hjn : q + k < ops.size := by omega
      have hoj : ops[q + k]? = some ops[q + k] := by simp [hjn]
      rw [show q + (k + 1) = (q + k) + 1 by omega]
      simp only [fE]
      cases hEj : E (q + k) with
      | false => simpa using ih
      | true =>
        have hne : q + k ≠ q := fun e => by rw [e] at hEj; rw [hnot] at hEj; cases hEj
        have hd : (ops[q + k]).dst ≠ some t := fun hd => by
          rcases D.ord q (q + k) _ _ (by omega) hq hoj with ⟨p, hp, hi⟩ | ⟨hc, _⟩
          · have := hE.pred hEj hp hi; rw [hnot] at this; cases this
          · exact (clash_false hc).2.2 t hd ht
        simp only [if_true]
        rw [hoj]
        simp only [Option.bind_some]
        rw [putF_ne hd]
        exact ih
  have := h2 (ops.size - q) (by omega)
  rw [show q + (ops.size - q) = ops.size by omega] at this
  rw [this]
  exact (h1 q (Nat.le_refl _)).1

omit D in
def ins (E : Nat → Bool) (q : Nat) : Nat → Bool := fun j => if j = q then true else E j

/-- one operation more -/
theorem Dr.ins_get {E : Nat → Bool} (hE : Down ops E) {q : Nat} {oq : Oper} (hq : ops[q]? = some oq) (hnot : E q = false) (hpre : ∀ p, (allPreds ops.toList [])[q]? = some p → ∀ i ∈ p, E i = true)
    (t : Nat) : (fE ops X (ins E q) (S 0).fr ops.size)[t]? = (putF (fE ops X E (S 0).fr ops.size) oq.dst (X q))[t]? := by
  have hqn : q < ops.size := (Array.getElem?_eq_some_iff.1 hq).1
  have h1 : ∀ j, j ≤ q → fE ops X (ins E q) (S 0).fr j = fE ops X E (S 0).fr j := by
    intro j hj
    induction j with
    | zero => rfl
    | succ j ih =>
      simp only [fE]
      rw [ih (by omega)]
      have : ins E q j = E j := by unfold ins; rw [if_neg (by omega)]
      rw [this]
  have h2 : ∀ k, q + 1 + k ≤ ops.size → (fE ops X (ins E q) (S 0).fr (q + 1 + k))[t]? = (putF (fE ops X E (S 0).fr (q + 1 + k)) oq.dst (X q))[t]? := by
    intro k
    induction k with
    | zero =>
      intro _
      simp only [fE]
      have hi : ins E q q = true := by simp [ins]
      rw [hi, hnot, hq]
      simp only [if_true, Bool.false_eq_true, if_false, Option.bind_some]
      rw [h1 q (Nat.le_refl _)]
    | succ k ih =>
      intro hk
      have ih := ih (by omega)
      have hjn : q + 1 + k < ops.size := by omega
      have hoj : ops[q + 1 + k]? = some ops[q + 1 + k] := by simp [hjn]
      rw [show q + 1 + (k + 1) = (q + 1 + k) + 1 by omega]
      simp only [fE]
      have hi : ins E q (q + 1 + k) = E (q + 1 + k) := by unfold ins; rw [if_neg (by omega)]
      rw [hi]
      cases hEj : E (q + 1 + k) with
      | false => simpa using ih
      | true =>
        have hcl : clash ops oq ops[q + 1 + k] = false := by
          rcases D.ord q (q + 1 + k) _ _ (by omega) hq hoj with ⟨p, hp, hi⟩ | ⟨hc, _⟩
          · have := hE.pred hEj hp hi; rw [hnot] at this; cases this
          · exact hc
        have hdd := (clash_false hcl).2.1
        simp only [if_true]
        rw [hoj]
        simp only [Option.bind_some]
        have hlen : (fE ops X (ins E q) (S 0).fr (q + 1 + k)).length = (putF (fE ops X E (S 0).fr (q + 1 + k)) oq.dst (X q)).length := by rw [putF_length, fE_length, fE_length]
        rw [putF_congr ih hlen]
        -- two puts at two places
        generalize fE ops X E (S 0).fr (q + 1 + k) = f
        cases hq1 : oq.dst with
        | none => rfl
        | some d =>
          cases hq2 : (ops[q + 1 + k]).dst with
          | none => rfl
          | some d' =>
            have : d ≠ d' := fun e => hdd d hq1 (by rw [hq2, e])
            simp only [putF]
            rw [List.set_comm _ _ this]
  have := h2 (ops.size - (q + 1)) (by omega)
  rwa [show q + 1 + (ops.size - (q + 1)) = ops.size by omega] at this

/-- all are done: the frame is the text's -/
theorem Dr.fr_all {E : Nat → Bool} (h : ∀ j, j < ops.size → E j = true) : fE ops X E (S 0).fr ops.size = (S ops.size).fr := by
  have h1 : ∀ j, j ≤ ops.size → fE ops X E (S 0).fr j = (S j).fr := by
    intro j hj
    induction j with
    | zero => rfl
    | succ j ih =>
      have hjn : j < ops.size := by omega
      have hoj : ops[j]? = some ops[j] := by simp [hjn]
      simp only [fE]
      rw [h j hjn, ih (by omega), (D.step j _ hoj).fr, hoj]
      rfl
  exact h1 _ (Nat.le_refl _)
end

theorem edgesOk_ok : ∀ {l : List Oper} {j : Nat}, edgesOk j l = true → ∀ k o, l[k]? = some o → ∀ e ∈ o.after, Region.binds .any e = true → e.on < j + k
  | [], j, h, k, o, hk => by simp at hk
  | o' :: l, j, h, k, o, hk => by
    simp only [edgesOk] at h
    split at h
    · rename_i hall
      cases k with
      | zero =>
        simp at hk; subst hk
        intro e he hb
        have := allB_ok hall e (by simpa using he)
        simp only [hb, if_true] at this
        have := Nat.le_of_ble_eq_true this
        omega
      | succ k =>
        intro e he hb
        have := edgesOk_ok h k o (by simpa using hk) e he hb
        omega
    · cases h

theorem StepJ.wrp {C : Cfg} {ops : Array Oper} {o : Oper} {s s' : St} {x : AV} {l : FI} (h : StepJ C ops o s x l s') {h0 : Heap} (hle : h0.length ≤ s.h.length)
    (hw : ∀ (i : Nat), i ∉ s.ws → i < h0.length → s.h[i]? = h0[i]?) : ∀ (i : Nat), i ∉ s'.ws → i < h0.length → s'.h[i]? = h0[i]? := by
  cases h with
  | run x h' ws l hg hop =>
    intro i hi hl
    have hi : ¬ (i ∈ ws ∨ i ∈ s.ws) := fun h => hi (mem_unionN.2 h)
    show h'[i]? = _
    rw [hop.wr i (fun h => hi (.inl h)) (by omega), hw i (fun h => hi (.inr h)) hl]
  | skip => exact hw

def lst (listed : Array Bool) (j : Nat) : Bool := listed.getD j false

theorem lst_set {listed : Array Bool} {q : Nat} (hq : q < listed.size) : lst (listed.setIfInBounds q true) = ins (lst listed) q := by
  funext j
  unfold lst ins
  by_cases h : j = q
  · subst h; simp [hq]
  · rw [if_neg h]
    simp [Array.getElem?_setIfInBounds_ne (Ne.symm h)]

theorem getD_ff {listed : Array Bool} {j : Nat} (h : j < listed.size) : listed.getD j true = lst listed j := by simp [lst, h]

theorem count_set {l : List Bool} {q : Nat} (h : l[q]? = some false) : (l.set q true).count false + 1 = l.count false := by
  induction l generalizing q with
  | nil => simp at h
  | cons b l ih =>
    cases q with
    | zero => simp at h; subst h; simp
    | succ q =>
      have := ih (q := q) (by simpa using h)
      cases b <;> simp <;> omega

/-- whatever order comes up -/
theorem Dr.any {C : Cfg} {ops : Array Oper} {S : Nat → St} {X : Nat → AV} {F : Nat → FI} (D : Dr C ops S X F)
    (hed : ∀ (j : Nat) (o : Oper), ops[j]? = some o → ∀ e ∈ o.after, Region.binds .any e = true → e.on < j)
    {α0 : Nat → Loc} {h0 : Heap} {w0 : World} (hlen : ∀ n, n ≤ ops.size → h0.length ≤ (S n).h.length) (hwr0 : ∀ (i : Nat), i ∉ (S 0).ws → i < h0.length → (S 0).h[i]? = h0[i]?) {Q : Exit → Act → World → Prop}
    (hQ : ∀ α a w, Rel C α0 h0 w0 α (S ops.size) a w → Q .normal a w) :
    ∀ (fuel : Nat) (listed : Array Bool) (a : Act) (w : World) (α : Nat → Loc) (k : Nat), listed.size = ops.size → Down ops (lst listed) → listed.toList.count false = fuel →
      k ≤ ops.size → (∀ j, j < ops.size → (F j).l = true → (lst listed j = true ↔ j < k)) → Rel C α0 h0 w0 α ⟨fE ops X (lst listed) (S 0).fr ops.size, (S k).h, List.range h0.length⟩ a w →
      wpAny C.P .any ops Q fuel listed a w := by
  -- all is done
  have fin : ∀ (listed : Array Bool) (a : Act) (w : World) (α : Nat → Loc) (k : Nat), (∀ j, j < ops.size → lst listed j = true) → k ≤ ops.size → (∀ j, j < ops.size → (F j).l = true → (lst listed j = true ↔ j < k)) →
      Rel C α0 h0 w0 α ⟨fE ops X (lst listed) (S 0).fr ops.size, (S k).h, List.range h0.length⟩ a w → Q .normal a w := by
    intro listed a w α k hall hk hiff R
    have hfr := D.fr_all (E := lst listed) hall
    have hh := D.heap_eq hk (Nat.le_refl _) fun j h1 h2 => by
      cases hF : (F j).l with
      | false => rfl
      | true => have := (hiff j h2 hF).1 (hall j h2); omega
    have hwr : ∀ n, n ≤ ops.size → ∀ (i : Nat), i ∉ (S n).ws → i < h0.length → (S n).h[i]? = h0[i]? := by
      intro n
      induction n with
      | zero => intro _; exact hwr0
      | succ n ih =>
        intro hn
        have hlt : n < ops.size := by omega
        exact (D.step n ops[n] (by simp [hlt])).wrp (hlen n (by omega)) (ih (by omega))
    refine hQ α a w ⟨?_, ?_, ?_, ?_, ?_, ?_, hwr ops.size (Nat.le_refl _), R.df⟩
    · rw [hh]; exact R.stp
    · rw [hh]; exact R.sat
    · rw [← hfr]; exact R.slot
    · rw [← hfr, hh]; exact R.wf
    · rw [hh]; exact R.hwf
    · rw [hh]; exact R.gl
  intro fuel
  induction fuel with
  | zero =>
    intro listed a w α k hsz hdn hcnt hk hiff R
    have hall : ∀ j, j < ops.size → lst listed j = true := fun j hj => by
      cases hb : lst listed j with
      | true => rfl
      | false =>
        exfalso
        have hmem : false ∈ listed.toList := by
          have hj' : j < listed.size := by omega
          have : listed[j] = false := by have := hb; simpa [lst, hj'] using this
          rw [← this]; exact Array.getElem_mem_toList hj'
        have := List.count_pos_iff.2 hmem
        omega
    refine ⟨?_, fin listed a w α k hall hk hiff R⟩
    cases hr : Region.ready .any ops listed with
    | nil => rfl
    | cons q r =>
      exfalso
      have hm : q ∈ Region.ready .any ops listed := by rw [hr]; simp
      obtain ⟨h1, o, ho, _⟩ := mem_ready.1 hm
      have hq : q < ops.size := (Array.getElem?_eq_some_iff.1 ho).1
      rw [getD_ff (by omega), hall q hq] at h1; cases h1
  | succ fuel ih =>
    intro listed a w α k hsz hdn hcnt hk hiff R
    refine ⟨fun hnil => ?_, fun q hq => ?_⟩
    · -- nothing is ready: all is done
      refine fin listed a w α k ?_ hk hiff R
      intro j
      induction j using Nat.strongRecOn with
      | _ j ihj =>
        intro hj
        cases hb : lst listed j with
        | true => rfl
        | false =>
          exfalso
          have hm : j ∈ Region.ready .any ops listed := mem_ready.2 ⟨by rw [getD_ff (by omega)]; exact hb, ops[j], by simp [hj], fun e he hbd => ihj e.on (hed j _ (by simp [hj]) e he hbd) (by have := hed j ops[j] (by simp [hj]) e he hbd; omega)⟩
          rw [hnil] at hm; cases hm
    · obtain ⟨h1, oq, hoq, hpre0⟩ := mem_ready.1 hq
      have hqn : q < ops.size := (Array.getElem?_eq_some_iff.1 hoq).1
      have hnot : lst listed q = false := by rw [← getD_ff (by omega)]; exact h1
      have hdn' : Down ops (ins (lst listed) q) := by
        refine ⟨fun j o hj ho e he hb => ?_, fun j hj => ?_⟩
        · unfold ins at hj ⊢
          by_cases hjq : j = q
          · subst hjq
            rw [hoq] at ho; cases ho
            split
            · rfl
            · exact hpre0 e he hb
          · rw [if_neg hjq] at hj
            split
            · rfl
            · exact hdn.dir j o hj ho e he hb
        · unfold ins at hj
          split at hj
          · omega
          · exact hdn.lt j hj
      have hpre : ∀ p, (allPreds ops.toList [])[q]? = some p → ∀ i ∈ p, lst listed i = true := fun p hp i hi => by
        have h2 := hdn'.pred (j := q) (by simp [ins]) hp hi
        unfold ins at h2
        split at h2
        · rename_i hiq
          -- q itself cannot be ahead of q
          exfalso
          subst hiq
          have hlt : ∀ (j : Nat) (p : List Nat), (allPreds ops.toList [])[j]? = some p → ∀ i ∈ p, i < j := by
            intro j
            induction j using Nat.strongRecOn with
            | _ j ihj =>
              intro p hp i hi
              have hjn : j < ops.size := by have := lt_of_get hp; rw [allPreds_length] at this; simpa using this
              have hoj : ops.toList[j]? = some ops[j] := by simp [hjn]
              have := allPreds_get (acc := []) hoj
              simp only [List.length_nil, Nat.zero_add] at this
              rw [this] at hp; cases hp
              unfold predsOf at hi
              obtain ⟨e, he, hi⟩ := List.mem_flatMap.1 hi
              obtain ⟨he, hb⟩ := List.mem_filter.1 he
              have hon := hed j ops[j] (by simp [hjn]) e (by simpa using he) hb
              rcases List.mem_cons.1 hi with rfl | hi
              · exact hon
              · have hget : ((allPreds ops.toList []).take j)[e.on]? = some (((allPreds ops.toList []).take j).getD e.on []) := by
                  cases hq : ((allPreds ops.toList []).take j)[e.on]? with
                  | none => rw [List.getD_eq_getElem?_getD, hq] at hi; simp at hi
                  | some q => rw [List.getD_eq_getElem?_getD, hq]; rfl
                rw [List.getElem?_take, if_pos hon] at hget
                have := ihj e.on hon _ hget i hi; omega
          have := hlt _ p hp _ hi
          omega
        · exact h2
      have hslot := fun (t : Nat) (ht : t ∈ looks ops oq) => D.slot_eq hdn hoq hnot hpre ht
      have hyp : Hyp C oq.op.operands.toList (S q).fr (S k).h α w a := by
        refine ⟨fun t ht av hav => ?_, fun t ht av hav => ?_, R.hwf, R.gl, R.sat⟩
        · rw [← hslot t (looks_tmp ht)] at hav; exact R.slot t av hav
        · rw [← hslot t (looks_tmp ht)] at hav; exact R.wf t av hav
      have hgd : ∀ (t : Nat), gslot ops oq = some t → ∀ av, (S q).fr[t]? = some av → ∃ v, a.tmps[t]? = some v ∧ AVV α av v := fun t ht av hav => by
        rw [← hslot t (looks_guard ht)] at hav; exact R.slot t av hav
      have hstep := D.step q oq hoq
      have hlst := lst_set (listed := listed) (q := q) (by omega)
      have hcnt' : (listed.setIfInBounds q true).toList.count false = fuel := by
        have hb : listed.toList[q]? = some false := by
          have hq' : q < listed.size := by omega
          have : listed[q] = false := by have := hnot; simp [lst, hq'] at this; exact this
          simp [hq', this]
        have := count_set hb
        rw [Array.toList_setIfInBounds]; omega
      -- behind it
      have cont : ∀ (α' : Nat → Loc) (w' : World) (v : Value) (k' : Nat) (ws : List Nat), k' ≤ ops.size → (∀ j, j < ops.size → (F j).l = true → (ins (lst listed) q j = true ↔ j < k')) → (∀ i, i ∉ ws → i < (S k).h.length → (S k').h[i]? = (S k).h[i]?) →
          Stp α (S k).h w α' (S k').h w' → Sat α' (S k').h w' → AVV α' (X q) v → avWF (S k').h (X q) → heapWF (S k').h →
          wpAny C.P .any ops Q fuel (listed.setIfInBounds q true) (a.put oq.dst v) w' := by
        intro α' w' v k' ws hk' hiff' hws g1 g2 g3 g4 g5
        refine ih (listed.setIfInBounds q true) _ w' α' k' (by simpa using hsz) (by rw [hlst]; exact hdn') hcnt' hk' (by rw [hlst]; exact hiff') ?_
        rw [hlst]
        have R1 := R.step (dst := oq.dst) (ws := ws) g1 g2 g3 g4 g5 hws
        have hget := fun t => D.ins_get hdn hoq hnot hpre t
        exact {
          stp := R1.stp
          sat := R1.sat
          slot := fun t av ht => R1.slot t av (by rw [hget] at ht; exact ht)
          wf := fun t av ht => R1.wf t av (by rw [hget] at ht; exact ht)
          hwf := R1.hwf
          gl := R1.gl
          wr := fun i hi hl => absurd (List.mem_range.2 hl) hi
          df := R1.df }
      unfold wpOp
      simp only [hoq]
      cases hF : (F q).l with
      | true =>
        -- a loud one: the heap is the text's
        have hiff0 : ∀ j, j < ops.size → j ≠ q → (F j).l = true → (lst listed j = true ↔ j < q) := fun j hj hjq hFj => D.loud_iff hdn hoq hnot hpre hj hjq hFj hF
        have hheap : (S q).h = (S k).h := by
          rcases Nat.le_total k q with hkq | hkq
          · refine D.heap_eq hkq (by omega) fun j h1 h2 => ?_
            cases hFj : (F j).l with
            | false => rfl
            | true =>
              have a1 := (hiff0 j (by omega) (by omega) hFj).2 h2
              have a2 := (hiff j (by omega) hFj).1 a1
              omega
          · have := D.heap_eq hkq hk fun j h1 h2 => by
              cases hFj : (F j).l with
              | false => rfl
              | true =>
                have a1 := (hiff j (by omega) hFj).2 h2
                by_cases hjq : j = q
                · subst hjq; rw [hnot] at a1; cases a1
                · have a2 := (hiff0 j (by omega) hjq hFj).1 a1; omega
            exact this.symm
        have hiff' : ∀ j, j < ops.size → (F j).l = true → (ins (lst listed) q j = true ↔ j < q + 1) := fun j hj hFj => by
          unfold ins
          by_cases hjq : j = q
          · rw [if_pos hjq]; simp; omega
          · rw [if_neg hjq, hiff0 j hj hjq hFj]; omega
        generalize hx : X q = xq at *
        generalize hl : F q = lq at *
        generalize hs1 : S (q + 1) = s1 at *
        cases hstep with
        | run _ h' ws l hg hop hrob =>
          rw [hg α a hgd]
          simp only [if_true]
          refine .inl (hop.run α w a (by rw [hheap]; exact hyp) _ _ fun α' w' v g1 g2 g3 g4 g5 => cont α' w' v (q + 1) ws (by omega) hiff' ?_ ?_ ?_ g3 ?_ ?_)
          · intro i hi hil; rw [hs1]; show h'[i]? = _; rw [hop.wr i hi (by rw [hheap]; exact hil), hheap]
          · rw [hs1, ← hheap]; exact g1
          · rw [hs1]; exact g2
          · rw [hs1]; exact g4
          · rw [hs1]; exact g5
        | skip hg => cases hF
      | false =>
        -- a quiet one
        have hiff' : ∀ j, j < ops.size → (F j).l = true → (ins (lst listed) q j = true ↔ j < k) := fun j hj hFj => by
          unfold ins
          by_cases hjq : j = q
          · subst hjq; rw [hF] at hFj; cases hFj
          · rw [if_neg hjq]; exact hiff j hj hFj
        -- the loud ones between
        have hbet : ∀ j, (k ≤ j ∧ j < q ∨ q ≤ j ∧ j < k) → (F j).l = true → swB (F q).k (F j).ws (F j).n = true := fun j hj hFj => by
          have hjn : j < ops.size := by omega
          have hjq : j ≠ q := fun e => by subst e; rw [hF] at hFj; cases hFj
          refine D.sw hdn hoq hnot hpre hjn hjq hFj hF fun h => ?_
          have := hiff j hjn hFj
          rcases hj with ⟨h1, h2⟩ | ⟨h1, h2⟩
          · have := this.1 (h.2 h2); omega
          · have := h.1 (this.2 h2); omega
        have hop' : ∀ (x : AV) (h' : Heap) (ws : List Nat) (l : Bool), OpS C oq (S q).fr (S q).h x h' ws l → l = false → Rob C oq (S q).fr (S q).h x (rk C oq (S q).fr) → (F q).k = rk C oq (S q).fr → OpS C oq (S q).fr (S k).h x (S k).h [] false := by
          intro x h' ws l hop hl hrob hFk
          cases hrk : rk C oq (S q).fr with
          | none =>
            have hheap : (S q).h = (S k).h := by
              have nol : ∀ j, (k ≤ j ∧ j < q ∨ q ≤ j ∧ j < k) → (F j).l = false := fun j hj => by
                cases hFj : (F j).l with
                | false => rfl
                | true => have := hbet j hj hFj; rw [hFk, hrk] at this; simp [swB] at this
              rcases Nat.le_total k q with hkq | hkq
              · exact D.heap_eq hkq (by omega) fun j h1 h2 => nol j (.inl ⟨h1, h2⟩)
              · exact (D.heap_eq hkq hk fun j h1 h2 => nol j (.inr ⟨h1, h2⟩)).symm
            have hq' := hop.quiet hl
            rw [hq', hheap] at hop
            exact ⟨fun _ _ _ => rfl, fun _ => rfl, Nat.le_refl _, hop.run⟩
          | some κ =>
            refine hrob κ hrk (S k).h fun b hb => ?_
            subst hb
            have nol : ∀ j, (k ≤ j ∧ j < q ∨ q ≤ j ∧ j < k) → (F j).l = true → b ∉ (F j).ws ∧ b < (F j).n := fun j hj hFj => by
              have := hbet j hj hFj
              rw [hFk, hrk] at this
              simp only [swB] at this
              split at this
              · cases this
              · rename_i hm
                exact ⟨fun h => hm (memN_iff.2 h), Nat.le_of_ble_eq_true this⟩
            rcases Nat.le_total k q with hkq | hkq
            · exact (D.blk_eq hkq (by omega) fun j h1 h2 => nol j (.inl ⟨h1, h2⟩)).symm
            · exact D.blk_eq hkq hk fun j h1 h2 => nol j (.inr ⟨h1, h2⟩)
        clear hbet
        generalize hx : X q = xq at *
        generalize hl : F q = lq at *
        generalize hs1 : S (q + 1) = s1 at *
        cases hstep with
        | run _ h' ws l hg hop hrob =>
          have hopk := hop' _ _ _ _ hop hF hrob rfl
          rw [hg α a hgd]
          simp only [if_true]
          exact .inl (hopk.run α w a hyp _ _ fun α' w' v g1 g2 g3 g4 g5 => cont α' w' v k [] hk hiff' (fun _ _ _ => rfl) g1 g2 g3 g4 g5)
        | skip hg =>
          rw [hg α a hgd]
          simp only [Bool.false_eq_true, if_false]
          refine cont α w undef k [] hk hiff' (fun _ _ _ => rfl) (.refl _ _ _) R.sat (AVV.undef α) (fun x hx => by cases hx) R.hwf

end Ev

namespace Ev
open Go

/-! ## Code -/
theorem Rel.drew {C : Cfg} {α0 : Nat → Loc} {h0 : Heap} {w0 : World} {α : Nat → Loc} {s : St} {a : Act} {w : World} (R : Rel C α0 h0 w0 α s a w) : Rel C α0 h0 w0 α s a { w with drawn := w.drawn + 1 } where
  stp := ⟨R.stp.os, R.stp.tape, R.stp.output, R.stp.size, R.stp.cells, R.stp.frame, R.stp.al, R.stp.shape, R.stp.newb, R.stp.fixd⟩
  sat := ⟨fun i b hb => let k := R.sat.blk i b hb; ⟨k.ex, k.nl⟩, R.sat.sep⟩
  slot := R.slot
  wf := R.wf
  hwf := R.hwf
  gl := R.gl
  wr := R.wr
  df := R.df

/-- the old blocks that were not written: of this, nothing of the run is needed -/
def WrS (s s' : St) : Prop := s.h.length ≤ s'.h.length ∧ ∀ (h0 : Heap), h0.length ≤ s.h.length → (∀ (i : Nat), i ∉ s.ws → i < h0.length → s.h[i]? = h0[i]?) → ∀ (i : Nat), i ∉ s'.ws → i < h0.length → s'.h[i]? = h0[i]?

theorem WrS.refl (s : St) : WrS s s := ⟨Nat.le_refl _, fun _ _ h => h⟩

theorem WrS.trans {s s' s'' : St} (h1 : WrS s s') (h2 : WrS s' s'') : WrS s s'' := ⟨Nat.le_trans h1.1 h2.1, fun h0 hl h => h2.2 h0 (Nat.le_trans hl h1.1) (h1.2 h0 hl h)⟩

theorem StepJ.wrs {C : Cfg} {ops : Array Oper} {o : Oper} {s s' : St} {x : AV} {l : FI} (h : StepJ C ops o s x l s') : WrS s s' := by
  refine ⟨?_, fun h0 hl hw => h.wrp hl hw⟩
  cases h with
  | run x h' ws l hg hop => exact hop.len
  | skip => exact Nat.le_refl _

theorem Tr.wrs {C : Cfg} {ops : Array Oper} {l : List Oper} {s s' : St} {fl : List FI} (h : Tr C ops l s fl s') : WrS s s' := by
  induction h with
  | nil s => exact .refl s
  | cons h1 _ ih => exact h1.wrs.trans ih

theorem region_ok {β : Type} {C : Cfg} (P : ProgOk C.P) {call : Call β} (hc : CallOk C call) {id : Nat} {ops : Array Oper} {draw : Bool} {s : St} {K : St → Option β} {r : β}
    (e : evOps C call ops.toList ops.toList s [] (fun st fl => if draw then (if drawOk ops fl then K st else none) else K st) = some r) :
    ∃ s', K s' = some r ∧ WrS s s' ∧ ∀ (α0 : Nat → Loc) (h0 : Heap) (w0 : World) (Q : Exit → Act → World → Prop), (∀ α a w, Rel C α0 h0 w0 α s' a w → Q .normal a w) → ∀ α a w, Rel C α0 h0 w0 α s a w → (Code.region id ops draw).wp C.P Q a w := by
  obtain ⟨s', fl, e1, ht⟩ := evOps_inv P hc e
  cases draw with
  | false =>
    simp only [Bool.false_eq_true, if_false] at e1
    refine ⟨s', e1, ht.wrs, fun α0 h0 w0 Q hQ α a w R => wp_region ?_⟩
    have := ht.wpOps (Q := Q) (i := 0) (by simp) hQ α a w R
    rw [List.range_eq_range']; simpa using this
  | true =>
    simp only [if_true, List.append_nil] at e1
    split at e1
    · rename_i hd
      refine ⟨s', e1, ht.wrs, fun α0 h0 w0 Q hQ α a w R => wp_region_any P.mixed ?_⟩
      unfold drawOk at hd
      split at hd
      · rename_i hed
        rw [List.reverse_reverse] at hd
        obtain ⟨S, X, F, h1, h2, h3, h4⟩ := ht.seq
        have D : Dr C ops S X F := by
          refine ⟨fun j o ho => h4 j o (by simpa using ho), fun i j oi oj hij hoi hoj => ?_⟩
          have hjn : j < ops.size := (Array.getElem?_eq_some_iff.1 hoj).1
          have hin : i < ops.size := by omega
          have hfl : ∀ k, k < ops.size → fl[k]? = some (F k) := fun k hk => by rw [h3]; simp [hk]
          have hz : ∀ k o, k < ops.size → ops[k]? = some o → (ops.toList.zip fl)[k]? = some (o, F k) := fun k o hk ho => by
            rw [List.getElem?_zip_eq_some]
            exact ⟨by simpa using ho, hfl k hk⟩
          obtain ⟨p, hp, hall⟩ := drawOkGo_ok hd j oj (F j) (hz j oj hjn hoj)
          rcases hall i oi (F i) (by simpa using hz i oi hin hoi) (by simpa using hij) with h | h
          · exact .inl ⟨p, hp, h⟩
          · exact .inr h
        have hlen : ops.toList.length = ops.size := by simp
        rw [hlen] at h2
        have hlf : ∀ j, lst (Array.replicate ops.size false) j = false := fun j => by
          unfold lst
          rcases Nat.lt_or_ge j ops.size with hj | hj
          · simp [hj]
          · simp [hj]
        have hfe : ∀ k, fE ops X (lst (Array.replicate ops.size false)) (S 0).fr k = (S 0).fr := fun k => by
          induction k with
          | zero => rfl
          | succ k ih => simp only [fE, hlf, Bool.false_eq_true, if_false]; exact ih
        have hle : ∀ n, n ≤ ops.size → s.h.length ≤ (S n).h.length := by
          intro n
          induction n with
          | zero => intro _; rw [h1]; exact Nat.le_refl _
          | succ n ih =>
            intro hn
            have hlt : n < ops.size := by omega
            exact Nat.le_trans (ih (by omega)) (D.step n ops[n] (by simp [hlt])).wrs.1
        refine D.any (fun j o ho e he hb => by have := edgesOk_ok hed j o (by simpa using ho) e he hb; omega) (α0 := α0) (h0 := h0) (w0 := w0) (fun n hn => Nat.le_trans R.stp.length (hle n hn)) (by rw [h1]; exact R.wr) (by rw [h2]; exact hQ)
          ops.size _ a _ α 0 (by simp) ⟨(fun j o hj => by rw [hlf] at hj; cases hj), (fun j hj => by rw [hlf] at hj; cases hj)⟩ (by simp) (by omega) (fun j _ _ => by rw [hlf]; simp) ?_
        rw [hfe, h1]
        have R1 := R.drew
        exact ⟨R1.stp, R1.sat, R1.slot, R1.wf, R1.hwf, R1.gl, (fun i hi hl => absurd (List.mem_range.2 hl) hi), R1.df⟩
      · cases hd
    · cases e1

def Ex.toExit : Ex → Exit
  | .normal => .normal
  | .exit id => .exit id
  | .goto l => .goto l
  | .ret => .ret

/-- where a run of code comes to -/
def Comes (C : Cfg) (s : St) (e : Ex) (s' : St) (wp : (Exit → Act → World → Prop) → Act → World → Prop) : Prop :=
  ∀ (α0 : Nat → Loc) (h0 : Heap) (w0 : World) (Q : Exit → Act → World → Prop), (∀ α a w, Rel C α0 h0 w0 α s' a w → Q e.toExit a w) → ∀ α a w, Rel C α0 h0 w0 α s a w → wp Q a w

/-- a way to run code is right -/
def RunOk {β : Type} (C : Cfg) (run : St → (Ex → St → Option β) → Option β) (c : Code) : Prop :=
  ∀ s K r, run s K = some r → ∃ e s', K e s' = some r ∧ WrS s s' ∧ Comes C s e s' (c.wp C.P)

theorem loopK_ok {β : Type} {C : Cfg} {body : St → (Ex → St → Option β) → Option β} {c : Code} (hb : RunOk C body c) : ∀ (k : Nat) (s : St) (K : Ex → St → Option β) (r : β), loopK body k s K = some r →
    ∃ e s', K e s' = some r ∧ WrS s s' ∧ Comes C s e s' (fun Q => Code.rounds C.P c Q k)
  | 0, s, K, r, e => by simp [loopK] at e
  | k + 1, s, K, r, e => by
    simp only [loopK] at e
    obtain ⟨ex, s1, he, hw1, hr⟩ := hb _ _ _ e
    have other : (∀ a w (Q : Exit → Act → World → Prop), Q ex.toExit a w → (match (generalizing := false) ex.toExit with | .normal => Code.rounds C.P c Q k a w | e => Q e a w)) → K ex s1 = some r →
        ∃ e s', K e s' = some r ∧ WrS s s' ∧ Comes C s e s' (fun Q => Code.rounds C.P c Q (k + 1)) := fun h1 h2 =>
      ⟨ex, s1, h2, hw1, fun α0 h0 w0 Q hQ α a w R => by
        show Code.rounds C.P c Q (k + 1) a w
        rw [rounds_succ]
        refine hr α0 h0 w0 _ (fun α' a' w' R' => ?_) α a w R
        have := h1 a' w' Q (hQ α' a' w' R')
        cases ex <;> exact this⟩
    cases ex with
    | normal =>
      obtain ⟨e2, s2, h1, hw2, h2⟩ := loopK_ok hb k s1 K r he
      refine ⟨e2, s2, h1, hw1.trans hw2, fun α0 h0 w0 Q hQ α a w R => ?_⟩
      show Code.rounds C.P c Q (k + 1) a w
      rw [rounds_succ]
      exact hr α0 h0 w0 _ (fun α' a' w' R' => h2 α0 h0 w0 Q hQ α' a' w' R') α a w R
    | exit id => exact other (fun a w Q h => h) he
    | goto l => exact other (fun a w Q h => h) he
    | ret => exact other (fun a w Q h => h) he

/-- within a scope: what is left of its body, and the jumps -/
def ScopeR (P : Program) (c : Code) (Q : Exit → Act → World → Prop) : Nat → Code → Act → World → Prop
  | 0, _, _, _ => False
  | n + 1, cur, a, w => cur.wp P (fun e a w => match e with
    | .goto l => (match findLabel c l with
      | some rest => ScopeR P c Q n rest a w
      | none => Q (.goto l) a w)
    | e => Q e a w) a w

theorem ScopeR.arrives {P : Program} {c : Code} {Q : Exit → Act → World → Prop} : ∀ (n : Nat) (cur : Code) (a : Act) (w : World), ScopeR P c Q n cur a w → ∀ (b : Frame) (k : List Item) (cs : List Frame),
    ∃ e a' w', Q e a' w' ∧ Arrives P (lone (b.at a (.code cur :: .inScope c :: k)) cs w) b k cs e a' w'
  | 0, _, _, _, h, _, _, _ => h.elim
  | n + 1, cur, a, w, h, b, k, cs => by
    obtain ⟨e, a₁, w₁, hq, harr⟩ := h b (.inScope c :: k) cs
    cases e with
    | normal => exact ⟨.normal, a₁, w₁, hq, Steps.trans harr (.one step_inScope)⟩
    | exit id => exact ⟨.exit id, a₁, w₁, hq, fun k' hk => harr k' (by simp [exitTo, hk])⟩
    | goto l =>
      simp only at hq
      split at hq
      · rename_i rest hf
        obtain ⟨e₂, a₂, w₂, hq₂, harr₂⟩ := ScopeR.arrives n rest a₁ w₁ hq b k cs
        exact ⟨e₂, a₂, w₂, hq₂, .of_steps (harr _ (by simp [gotoIn, hf])) harr₂⟩
      · rename_i hf
        exact ⟨.goto l, a₁, w₁, hq, fun k' hk => harr k' (by simp [gotoIn, hf, hk])⟩
    | ret => exact ⟨_, a₁, w₁, hq, harr⟩
    | panic ch => exact ⟨_, a₁, w₁, hq, harr⟩
    | outgrown => exact ⟨_, a₁, w₁, hq, harr⟩

theorem wp_scopeR {P : Program} {c : Code} {Q : Exit → Act → World → Prop} {n : Nat} {a : Act} {w : World} (h : ScopeR P c Q n c a w) : (Code.scope c).wp P Q a w := by
  intro b k cs
  obtain ⟨e, a', w', hq, harr⟩ := ScopeR.arrives n c a w h b k cs
  exact ⟨e, a', w', hq, .of_steps (.one step_scope) harr⟩

theorem scopeK_ok {β : Type} {C : Cfg} {run : Code → St → (Ex → St → Option β) → Option β} (hb : ∀ c, RunOk C (run c) c) {body : Code} : ∀ (k : Nat) (cur : Code) (s : St) (K : Ex → St → Option β) (r : β), scopeK run body k cur s K = some r →
    ∃ e s', K e s' = some r ∧ WrS s s' ∧ Comes C s e s' (fun Q => ScopeR C.P body Q k cur)
  | 0, cur, s, K, r, e => by simp [scopeK] at e
  | k + 1, cur, s, K, r, e => by
    simp only [scopeK] at e
    obtain ⟨ex, s1, he, hw1, hr⟩ := hb cur _ _ _ e
    cases ex with
    | normal => exact ⟨.normal, s1, he, hw1, fun α0 h0 w0 Q hQ α a w R => by
      show ScopeR C.P body Q (k + 1) cur a w
      simp only [ScopeR]
      exact hr α0 h0 w0 _ (fun α' a' w' R' => by exact hQ α' a' w' R') α a w R⟩
    | exit id => exact ⟨.exit id, s1, he, hw1, fun α0 h0 w0 Q hQ α a w R => by
      show ScopeR C.P body Q (k + 1) cur a w
      simp only [ScopeR]
      exact hr α0 h0 w0 _ (fun α' a' w' R' => by exact hQ α' a' w' R') α a w R⟩
    | goto l =>
      simp only at he
      cases hf : findLabel body l with
      | some rest =>
        simp only [hf] at he
        obtain ⟨e2, s2, h1, hw2, h2⟩ := scopeK_ok hb k rest s1 K r he
        refine ⟨e2, s2, h1, hw1.trans hw2, fun α0 h0 w0 Q hQ α a w R => ?_⟩
        show ScopeR C.P body Q (k + 1) cur a w
        simp only [ScopeR]
        refine hr α0 h0 w0 _ (fun α' a' w' R' => ?_) α a w R
        simp only [Ex.toExit, hf]
        exact h2 α0 h0 w0 Q hQ α' a' w' R'
      | none =>
        simp only [hf] at he
        refine ⟨.goto l, s1, he, hw1, fun α0 h0 w0 Q hQ α a w R => ?_⟩
        show ScopeR C.P body Q (k + 1) cur a w
        simp only [ScopeR]
        refine hr α0 h0 w0 _ (fun α' a' w' R' => ?_) α a w R
        simp only [Ex.toExit, hf]
        exact hQ α' a' w' R'
    | ret => exact ⟨.ret, s1, he, hw1, fun α0 h0 w0 Q hQ α a w R => by
      show ScopeR C.P body Q (k + 1) cur a w
      simp only [ScopeR]
      exact hr α0 h0 w0 _ (fun α' a' w' R' => by exact hQ α' a' w' R') α a w R⟩

/-- what is noted was so -/
theorem noteK_inv {β : Type} {C : Cfg} {fr : Fr} {c : Operand} {b : Bool} {K : Fr → Option β} {r : β} (h : Ev1 C fr c (.ac (.one (.val (.bool b))))) (e : noteK fr c b K = some r) : K fr = some r := by
  unfold noteK at e
  split at e
  · rename_i t
    have h : fr[t]? = some (.ac (.one (.val (.bool b)))) := h
    rw [setK_eq, set_same h] at e
    exact e
  · exact e

theorem evC_ok {β : Type} {C : Cfg} (P : ProgOk C.P) {call : Call β} (hc : CallOk C call) (lf : Nat) : ∀ (n : Nat) (c : Code), RunOk C (evC C call lf n c) c
  | 0, c => fun s K r e => by simp [evC] at e
  | n + 1, c => by
    intro s K r e
    simp only [evC] at e
    split at e
    · exact ⟨_, _, e, .refl _, fun α0 h0 w0 Q hQ α a w R => wp_skip (hQ α a w R)⟩
    · exact ⟨_, _, e, .refl _, fun α0 h0 w0 Q hQ α a w R => wp_label (hQ α a w R)⟩
    · rename_i id ops draw
      obtain ⟨s', e1, hw1, hr⟩ := region_ok (id := id) P hc e
      exact ⟨_, _, e1, hw1, fun α0 h0 w0 Q hQ α a w R => hr α0 h0 w0 Q hQ α a w R⟩
    · rename_i x y
      obtain ⟨ex, s1, he, hw1, hr⟩ := evC_ok P hc lf n x _ _ _ e
      cases ex with
      | normal =>
        obtain ⟨e2, s2, h1, hw2, h2⟩ := evC_ok P hc lf n y _ _ _ he
        exact ⟨e2, s2, h1, hw1.trans hw2, fun α0 h0 w0 Q hQ α a w R => wp_seq (hr α0 h0 w0 _ (fun α' a' w' R' => h2 α0 h0 w0 Q hQ α' a' w' R') α a w R)⟩
      | exit id => exact ⟨_, _, he, hw1, fun α0 h0 w0 Q hQ α a w R => wp_seq (hr α0 h0 w0 _ (fun α' a' w' R' => by exact hQ α' a' w' R') α a w R)⟩
      | goto l => exact ⟨_, _, he, hw1, fun α0 h0 w0 Q hQ α a w R => wp_seq (hr α0 h0 w0 _ (fun α' a' w' R' => by exact hQ α' a' w' R') α a w R)⟩
      | ret => exact ⟨_, _, he, hw1, fun α0 h0 w0 Q hQ α a w R => wp_seq (hr α0 h0 w0 _ (fun α' a' w' R' => by exact hQ α' a' w' R') α a w R)⟩
    · rename_i c0 x y
      obtain ⟨t, ht, e1⟩ := evalC_inv e
      obtain ⟨b, rfl, e2⟩ := boolK_inv e1
      have hv : ∀ (α0 : Nat → Loc) (h0 : Heap) (w0 : World) α a w, Rel C α0 h0 w0 α s a w → a.eval c0 = .bool b := fun α0 h0 w0 α a w R => by
        obtain ⟨h1, _⟩ := ht.okC (R.hyp [c0]) (by simp)
        generalize a.eval c0 = z at h1; cases h1; rename_i h1; cases h1; rfl
      rcases cond_inv e2 with ⟨rfl, e3⟩ | ⟨rfl, e3⟩
      · obtain ⟨ex, s1, he, hw1, hr⟩ := evC_ok P hc lf n x _ _ _ (noteK_inv ht e3)
        exact ⟨ex, s1, he, hw1, fun α0 h0 w0 Q hQ α a w R => wp_cond_true (hv α0 h0 w0 α a w R) (hr α0 h0 w0 Q hQ α a w R)⟩
      · obtain ⟨ex, s1, he, hw1, hr⟩ := evC_ok P hc lf n y _ _ _ (noteK_inv ht e3)
        exact ⟨ex, s1, he, hw1, fun α0 h0 w0 Q hQ α a w R => wp_cond_false (hv α0 h0 w0 α a w R) (hr α0 h0 w0 Q hQ α a w R)⟩
    · rename_i id x
      obtain ⟨ex, s1, he, hw1, hr⟩ := evC_ok P hc lf n x _ _ _ e
      cases ex with
      | normal => exact ⟨_, _, he, hw1, fun α0 h0 w0 Q hQ α a w R => wp_block (hr α0 h0 w0 _ (fun α' a' w' R' => by exact hQ α' a' w' R') α a w R)⟩
      | exit id' =>
        simp only at he
        split at he
        · rename_i hb
          have hb := Nat.eq_of_beq_eq_true hb
          refine ⟨_, _, he, hw1, fun α0 h0 w0 Q hQ α a w R => wp_block (hr α0 h0 w0 _ (fun α' a' w' R' => ?_) α a w R)⟩
          simp only [Ex.toExit, Exit.inBlock]
          rw [if_pos hb]
          exact hQ α' a' w' R'
        · rename_i hb
          refine ⟨_, _, he, hw1, fun α0 h0 w0 Q hQ α a w R => wp_block (hr α0 h0 w0 _ (fun α' a' w' R' => ?_) α a w R)⟩
          simp only [Ex.toExit, Exit.inBlock]
          rw [if_neg (fun h => hb (by rw [h]; exact Nat.beq_refl id))]
          exact hQ α' a' w' R'
      | goto l => exact ⟨_, _, he, hw1, fun α0 h0 w0 Q hQ α a w R => wp_block (hr α0 h0 w0 _ (fun α' a' w' R' => by exact hQ α' a' w' R') α a w R)⟩
      | ret => exact ⟨_, _, he, hw1, fun α0 h0 w0 Q hQ α a w R => wp_block (hr α0 h0 w0 _ (fun α' a' w' R' => by exact hQ α' a' w' R') α a w R)⟩
    · rename_i x
      obtain ⟨ex, s1, he, hw1, hr⟩ := loopK_ok (evC_ok P hc lf n x) lf s K r e
      exact ⟨ex, s1, he, hw1, fun α0 h0 w0 Q hQ α a w R => wp_loop_rounds lf (hr α0 h0 w0 Q hQ α a w R)⟩
    · rename_i id; exact ⟨_, _, e, .refl _, fun α0 h0 w0 Q hQ α a w R => wp_exit (hQ α a w R)⟩
    · rename_i l; exact ⟨_, _, e, .refl _, fun α0 h0 w0 Q hQ α a w R => wp_goto (hQ α a w R)⟩
    · rename_i x
      obtain ⟨ex, s1, he, hw1, hr⟩ := scopeK_ok (fun c => evC_ok P hc lf n c) lf x s K r e
      exact ⟨ex, s1, he, hw1, fun α0 h0 w0 Q hQ α a w R => wp_scopeR (hr α0 h0 w0 Q hQ α a w R)⟩
    · exact ⟨_, _, e, .refl _, fun α0 h0 w0 Q hQ α a w R => wp_ret (hQ α a w R)⟩
    · cases e

end Ev
