/-
  Regions in any order, code, loops and functions: what the interpreter answers is so of every run of the function (ev_good), for every program that is ProgOk.
-/
import Derived.Test.YtoklelancnkkpaaDoorEvC
import Derived.LoopN
import Derived.KernelRfl
import Derived.ProofKit
import Derived.OpenShut
import Derived.LaidLaws
set_option autoImplicit false
set_option linter.unusedVariables false
namespace Ev
open Go

/-! ## A region -/
def putF (fr : Fr) (dst : Option Tmp) (x : AV) : Fr :=
  match dst with
  | some d => fr.set d x
  | none => fr

theorem putK_eq {β : Type} {fr : Fr} {dst : Option Tmp} {x : AV} {K : Fr → Option β} : putK fr dst x K = K (putF fr dst x) := by
  cases dst with
  | none => rfl
  | some d => simp [putK, putF, setK_eq]

theorem map_psAV_nil (fr : Fr) : fr.map (psAV []) = fr := by
  induction fr with
  | nil => rfl
  | cons x l ih => simp [psAV_nil, ih]

theorem psFrK_eq {β : Type} {m : List Nat} {fr : Fr} {K : Fr → Option β} : psFrK m fr K = K (fr.map (psAV m)) := by
  cases m with
  | nil => simp [psFrK, map_psAV_nil]
  | cons i l => simp [psFrK, mapK_eq]

/-- the slot that a guard looks at -/
def gslot (ops : Array Oper) (o : Oper) : Option Tmp :=
  match o.guard with
  | some (g, _) => (ops[g]?).bind (·.dst)
  | none => none

/-- whether the operation is wanted, seen off the frame -/
def GuardS (ops : Array Oper) (o : Oper) (fr : Fr) (b : Bool) : Prop :=
  ∀ (α : Nat → Loc) (a : Act), (∀ t, gslot ops o = some t → ∀ av, fr[t]? = some av → ∃ v, a.tmps[t]? = some v ∧ AVV α av v) → Region.wanted o (yielded ops a.tmps) = b

theorem set_same {α : Type} : ∀ {l : List α} {n : Nat} {x : α}, l[n]? = some x → l.set n x = l
  | [], n, x, h => by simp at h
  | y :: l, 0, x, h => by simp at h; simp [h]
  | y :: l, n + 1, x, h => by simp at h; simp [set_same h]

theorem guardK_inv {β : Type} {ops : Array Oper} {fr : Fr} {o : Oper} {yes no : Fr → Option β} {r : β} (e : guardK ops.toList fr o yes no = some r) :
    (yes fr = some r ∧ GuardS ops o fr true) ∨ (no fr = some r ∧ GuardS ops o fr false) := by
  unfold guardK at e
  split at e
  · rename_i hg
    exact .inl ⟨e, fun α a _ => by simp [Region.wanted, hg]⟩
  · rename_i j want hg
    obtain ⟨g, hgj, e1⟩ := getK_inv e
    have hgj : ops[j]? = some g := by simpa using hgj
    split at e1
    · rename_i d hd
      obtain ⟨av, hav, e2⟩ := getK_inv e1
      have key : ∀ (α : Nat → Loc) (a : Act), (∀ t, gslot ops o = some t → ∀ av, fr[t]? = some av → ∃ v, a.tmps[t]? = some v ∧ AVV α av v) → ∃ v, a.tmps[d]? = some v ∧ AVV α av v := fun α a h =>
        h d (by simp [gslot, hg, hgj, hd]) av hav
      split at e2
      · rename_i b
        have hw : ∀ (α : Nat → Loc) (a : Act), (∀ t, gslot ops o = some t → ∀ av, fr[t]? = some av → ∃ v, a.tmps[t]? = some v ∧ AVV α av v) → Region.wanted o (yielded ops a.tmps) = (b == want) := fun α a h => by
          obtain ⟨v, h1, h2⟩ := key α a h
          cases h2; rename_i h2; cases h2; rename_i h2; cases h2
          simp [Region.wanted, hg, yielded, hgj, hd, h1]
        rcases cond_inv e2 with ⟨rfl, e3⟩ | ⟨rfl, e3⟩ <;> rcases cond_inv e3 with ⟨rfl, e4⟩ | ⟨rfl, e4⟩ <;> rw [setK_eq, set_same hav] at e4
        · exact .inl ⟨e4, hw⟩
        · exact .inr ⟨e4, hw⟩
        · exact .inr ⟨e4, hw⟩
        · exact .inl ⟨e4, hw⟩
      · refine .inr ⟨e2, fun α a h => ?_⟩
        obtain ⟨v, h1, h2⟩ := key α a h
        cases h2; rename_i h2; cases h2
        simp [Region.wanted, hg, yielded, hgj, hd, h1]
      · cases e2
    · cases e1

/-- one operation's part of a walk in the text's order -/
inductive StepJ (C : Cfg) (ops : Array Oper) (o : Oper) (s : St) : List Nat → AV → Bool → St → Prop where
  | run (x : AV) (h' : Heap) (wr : Nat) (m : List Nat) (l : Bool) : GuardS ops o s.fr true → OpS C o s.fr s.h x h' wr m l →
      StepJ C ops o s m x l ⟨putF (s.fr.map (psAV m)) o.dst x, h', minN s.wr wr, m ++ s.mv⟩
  | skip : GuardS ops o s.fr false → StepJ C ops o s [] undefA false { s with fr := putF (s.fr.map (psAV [])) o.dst undefA }

inductive Tr (C : Cfg) (ops : Array Oper) : List Oper → St → List Bool → St → Prop where
  | nil (s : St) : Tr C ops [] s [] s
  | cons {o : Oper} {r : List Oper} {s s' s'' : St} {m : List Nat} {x : AV} {l : Bool} {fl : List Bool} : StepJ C ops o s m x l s' → Tr C ops r s' fl s'' → Tr C ops (o :: r) s (l :: fl) s''

theorem evOps_inv {β : Type} {C : Cfg} (P : ProgOk C.P) {call : Call β} (hc : CallOk C call) {ops : Array Oper} : ∀ {rest : List Oper} {s : St} {fl : List Bool} {K : St → List Bool → Option β} {r : β},
    evOps C call ops.toList rest s fl K = some r → ∃ s' fl', K s' (fl'.reverse ++ fl) = some r ∧ Tr C ops rest s fl' s'
  | [], s, fl, K, r, e => ⟨s, [], e, .nil s⟩
  | o :: rest, s, fl, K, r, e => by
    simp only [evOps] at e
    rcases guardK_inv e with ⟨e1, hg⟩ | ⟨e1, hg⟩
    · obtain ⟨x, h', wr, m, l, e2, hop⟩ := evOp_ok P hc e1
      rw [psFrK_eq, putK_eq] at e2
      obtain ⟨s', fl', e3, ht⟩ := evOps_inv P hc e2
      exact ⟨s', l :: fl', by simpa using e3, .cons (.run x h' wr m l hg hop) ht⟩
    · rw [putK_eq] at e1
      obtain ⟨s', fl', e3, ht⟩ := evOps_inv P hc e1
      refine ⟨s', false :: fl', by simpa using e3, .cons (s' := { s with fr := putF (s.fr.map (psAV [])) o.dst undefA }) (.skip hg) ?_⟩
      rw [map_psAV_nil]; exact ht

/-! ### what a state says of a frame and a world -/
structure Rel (C : Cfg) (α0 : Nat → Loc) (h0 : Heap) (w0 : World) (α : Nat → Loc) (s : St) (a : Act) (w : World) : Prop where
  stp : Stp α0 h0 w0 α s.h w s.mv
  sat : Sat α s.h w
  slot : ∀ (t : Nat) av, s.fr[t]? = some av → ∃ v, a.tmps[t]? = some v ∧ AVV α av v
  wf : ∀ (t : Nat) av, s.fr[t]? = some av → avWF s.h av
  hwf : heapWF s.h
  gl : Glob C α s.h
  wr : ∀ (i : Nat), i < s.wr → i < h0.length → s.h[i]? = h0[i]?
  df : a.defers = []

theorem Rel.hyp {C : Cfg} {α0 : Nat → Loc} {h0 : Heap} {w0 : World} {α : Nat → Loc} {s : St} {a : Act} {w : World} (R : Rel C α0 h0 w0 α s a w) (xs : List Operand) : Hyp C xs s.fr s.h α w a :=
  ⟨fun t _ => R.slot t, fun t _ => R.wf t, R.hwf, R.gl, R.sat⟩

theorem minN_le (a b : Nat) : minN a b ≤ a ∧ minN a b ≤ b := by
  unfold minN
  split
  · rename_i h; have := Nat.le_of_ble_eq_true h; omega
  · rename_i h
    have : ¬ a ≤ b := fun hle => h (Nat.ble_eq_true_of_le hle)
    omega

theorem putF_get {fr : Fr} {dst : Option Tmp} {x : AV} {t : Nat} {av : AV} (h : (putF fr dst x)[t]? = some av) : (dst = some t ∧ av = x) ∨ (dst ≠ some t ∧ fr[t]? = some av) := by
  cases dst with
  | none => exact .inr ⟨by simp, h⟩
  | some d =>
    simp only [putF] at h
    rw [List.getElem?_set] at h
    split at h
    · rename_i hd; subst hd
      split at h
      · cases h; exact .inl ⟨rfl, rfl⟩
      · cases h
    · rename_i hd; exact .inr ⟨fun h' => hd (by cases h'; rfl), h⟩

/-- the slots of a frame behind a put -/
theorem slot_put {α : Nat → Loc} {fr : Fr} {a : Act} {dst : Option Tmp} {x : AV} {v : Value} (hs : ∀ (t : Nat) av, fr[t]? = some av → ∃ v, a.tmps[t]? = some v ∧ AVV α av v) (hx : AVV α x v) :
    ∀ (t : Nat) av, (putF fr dst x)[t]? = some av → ∃ u, (a.put dst v).tmps[t]? = some u ∧ AVV α av u := by
  intro t av h
  cases dst with
  | none => exact hs t av h
  | some d =>
    rcases putF_get h with ⟨hd, rfl⟩ | ⟨hd, h⟩
    · have hd : d = t := by cases hd; rfl
      subst hd
      have hlt : d < fr.length := by
        have := lt_of_get h; simpa [putF] using this
      obtain ⟨u, hu, _⟩ := hs d _ (List.getElem?_eq_getElem hlt)
      have hlt' : d < a.tmps.size := by
        rcases Nat.lt_or_ge d a.tmps.size with h' | h'
        · exact h'
        · rw [Array.getElem?_eq_none h'] at hu; cases hu
      exact ⟨v, by simp [Act.put, hlt'], hx⟩
    · obtain ⟨u, hu, hav⟩ := hs t av h
      refine ⟨u, ?_, hav⟩
      have : d ≠ t := fun e => hd (by rw [e])
      simp [Act.put, Array.getElem?_setIfInBounds_ne this, hu]

theorem Rel.step {C : Cfg} {α0 : Nat → Loc} {h0 : Heap} {w0 : World} {α : Nat → Loc} {s : St} {a : Act} {w : World} (R : Rel C α0 h0 w0 α s a w) {α' : Nat → Loc} {h' : Heap} {w' : World} {m : List Nat} {x : AV} {v : Value} {dst : Option Tmp} {wr : Nat}
    (h1 : Stp α s.h w α' h' w' m) (h2 : Sat α' h' w') (h3 : AVV α' x v) (h4 : avWF h' x) (h5 : heapWF h') (h6 : ∀ i, i < wr → i < s.h.length → h'[i]? = s.h[i]?) :
    Rel C α0 h0 w0 α' ⟨putF (s.fr.map (psAV m)) dst x, h', minN s.wr wr, m ++ s.mv⟩ (a.put dst v) w' where
  stp := R.stp.trans h1
  sat := h2
  slot := by
    have key : ∀ (t : Nat) av, (s.fr.map (psAV m))[t]? = some av → ∃ v, a.tmps[t]? = some v ∧ AVV α' av v := fun t av ht => by
      rw [List.getElem?_map] at ht
      obtain ⟨y, hy, rfl⟩ := Option.map_eq_some_iff.1 ht
      obtain ⟨u, hu, hav⟩ := R.slot t y hy
      exact ⟨u, hu, psAV_ok h1 (R.wf t y hy) hav⟩
    intro t av ht
    exact slot_put (dst := dst) key h3 t av ht
  wf := fun t av ht => by
    rcases putF_get ht with ⟨_, rfl⟩ | ⟨_, ht⟩
    · exact h4
    · rw [List.getElem?_map] at ht
      obtain ⟨y, hy, rfl⟩ := Option.map_eq_some_iff.1 ht
      exact psAV_WF h1 (R.wf t y hy)
  hwf := h5
  gl := R.gl.step h1
  wr := fun i hi hl => by
    have := minN_le s.wr wr
    have hl' : i < s.h.length := Nat.lt_of_lt_of_le hl R.stp.length
    show h'[i]? = _
    rw [h6 i (by simp only at hi; omega) hl', R.wr i (by simp only at hi; omega) hl]
  df := by cases dst <;> exact R.df

theorem Rel.skip {C : Cfg} {α0 : Nat → Loc} {h0 : Heap} {w0 : World} {α : Nat → Loc} {s : St} {a : Act} {w : World} (R : Rel C α0 h0 w0 α s a w) (dst : Option Tmp) :
    Rel C α0 h0 w0 α { s with fr := putF (s.fr.map (psAV [])) dst undefA } (a.put dst undef) w := by
  rw [map_psAV_nil]
  exact {
    stp := R.stp
    sat := R.sat
    slot := by
      intro t av ht
      exact slot_put (dst := dst) R.slot (AVV.undef α) t av ht
    wf := fun t av ht => by
      rcases putF_get ht with ⟨_, rfl⟩ | ⟨_, ht⟩
      · intro x hx; cases hx
      · exact R.wf t av ht
    hwf := R.hwf
    gl := R.gl
    wr := R.wr
    df := by cases dst <;> exact R.df }

/-- a region in the text's order -/
theorem Tr.wpOps {C : Cfg} {ops : Array Oper} {α0 : Nat → Loc} {h0 : Heap} {w0 : World} {Q : Exit → Act → World → Prop} : ∀ {rest : List Oper} {s s' : St} {fl : List Bool} {i : Nat}, Tr C ops rest s fl s' → rest = ops.toList.drop i →
    (∀ α a w, Rel C α0 h0 w0 α s' a w → Q .normal a w) → ∀ α a w, Rel C α0 h0 w0 α s a w → Go.wpOps C.P ops Q (List.range' i rest.length) a w
  | [], s, s', fl, i, ht, hr, hQ, α, a, w, R => by
    cases ht; exact hQ α a w R
  | o :: rest, s, s', fl, i, ht, hr, hQ, α, a, w, R => by
    cases ht with
    | @cons _ _ _ s1 _ m x l fl hstep ht =>
      have hio : ops[i]? = some o := by
        have : (ops.toList.drop i)[0]? = some o := by rw [← hr]; rfl
        simpa using this
      have hrest : rest = ops.toList.drop (i + 1) := by
        have : (o :: rest).drop 1 = (ops.toList.drop i).drop 1 := by rw [hr]
        simpa using this
      have ih := fun α a w R => Tr.wpOps (Q := Q) ht hrest hQ α a w R
      simp only [List.length_cons, List.range'_succ, Go.wpOps, hio]
      cases hstep with
      | run x h' wr m l hg hop =>
        rw [hg α a (fun t _ => R.slot t)]
        simp only [if_true]
        refine .inl (hop.run α w a (R.hyp _) _ _ fun α' w' v h1 h2 h3 h4 h5 => ?_)
        exact ih α' _ w' (R.step h1 h2 h3 h4 h5 hop.wr)
      | skip hg =>
        rw [hg α a (fun t _ => R.slot t)]
        simp only [Bool.false_eq_true, if_false]
        exact ih α _ w (R.skip o.dst)

end Ev

namespace Ev
open Go

/-! ## A region that draws its order -/
theorem Tr.seq {C : Cfg} {ops : Array Oper} : ∀ {rest : List Oper} {s s' : St} {fl : List Bool}, Tr C ops rest s fl s' →
    ∃ (S : Nat → St) (M : Nat → List Nat) (X : Nat → AV) (F : Nat → Bool), S 0 = s ∧ S rest.length = s' ∧ fl = (List.range rest.length).map F ∧
      ∀ j o, rest[j]? = some o → StepJ C ops o (S j) (M j) (X j) (F j) (S (j + 1))
  | [], s, s', fl, h => by
    cases h
    exact ⟨fun _ => s, fun _ => [], fun _ => undefA, fun _ => false, rfl, rfl, rfl, fun j o hj => by simp at hj⟩
  | o :: rest, s, s', fl, h => by
    cases h with
    | @cons _ _ _ s1 _ m x l fl hstep ht =>
      obtain ⟨S, M, X, F, h1, h2, h3, h4⟩ := Tr.seq ht
      refine ⟨fun j => match j with | 0 => s | j + 1 => S j, fun j => match j with | 0 => m | j + 1 => M j, fun j => match j with | 0 => x | j + 1 => X j, fun j => match j with | 0 => l | j + 1 => F j, rfl, h2, ?_, ?_⟩
      · rw [h3]
        simp [List.range_succ_eq_map, Function.comp_def]
      · intro j o' hj
        cases j with
        | zero => simp at hj; subst hj; simp only [h1]; exact hstep
        | succ j => exact h4 j o' (by simpa using hj)

theorem StepJ.fr {C : Cfg} {ops : Array Oper} {o : Oper} {s s' : St} {m : List Nat} {x : AV} {l : Bool} (h : StepJ C ops o s m x l s') : s'.fr = putF (s.fr.map (psAV m)) o.dst x := by cases h <;> rfl
theorem StepJ.mv {C : Cfg} {ops : Array Oper} {o : Oper} {s s' : St} {m : List Nat} {x : AV} {l : Bool} (h : StepJ C ops o s m x l s') : s'.mv = m ++ s.mv := by cases h <;> rfl
theorem StepJ.quiet {C : Cfg} {ops : Array Oper} {o : Oper} {s s' : St} {m : List Nat} {x : AV} {l : Bool} (h : StepJ C ops o s m x l s') (hl : l = false) : s'.h = s.h ∧ m = [] := by
  cases h with
  | run x h' wr m l hg hop => exact hop.quiet hl
  | skip => exact ⟨rfl, rfl⟩

/-! ### the check -/
theorem memN_iff {x : Nat} {l : List Nat} : memN x l = true ↔ x ∈ l := by
  induction l with
  | nil => simp [memN]
  | cons y l ih =>
    simp only [memN]
    split
    · rename_i h; have := Nat.eq_of_beq_eq_true h; simp [this]
    · rename_i h
      rw [ih, List.mem_cons]
      constructor
      · exact .inr
      · rintro (rfl | h')
        · simp at h
        · exact h'

theorem pairOk_ok {ops : Array Oper} {j : Oper} {lj : Bool} {pj : List Nat} : ∀ {ahead : List (Oper × Bool)} {i : Nat}, pairOk ops j lj pj i ahead = true → ∀ k oi li, ahead[k]? = some (oi, li) →
    i + k ∈ pj ∨ (lj = false ∧ li = false ∧ clash ops oi j = false)
  | [], i, h, k, oi, li, hk => by simp at hk
  | (o, l) :: r, i, h, k, oi, li, hk => by
    simp only [pairOk] at h
    split at h
    · rename_i hm
      cases k with
      | zero => exact .inl (memN_iff.1 hm)
      | succ k => have := pairOk_ok h k oi li (by simpa using hk); rwa [show i + 1 + k = i + (k + 1) by omega] at this
    · split at h
      · cases h
      · split at h
        · cases h
        · split at h
          · cases h
          · rename_i h1 h2 h3
            cases k with
            | zero =>
              simp at hk
              obtain ⟨rfl, rfl⟩ := hk
              exact .inr ⟨by simpa using h1, by simpa using h2, by simpa using h3⟩
            | succ k => have := pairOk_ok h k oi li (by simpa using hk); rwa [show i + 1 + k = i + (k + 1) by omega] at this

theorem drawOkGo_ok {ops : Array Oper} : ∀ {r : List (Oper × Bool)} {ahead : List (Oper × Bool)} {ps : List (List Nat)}, drawOkGo ops ahead ps r = true → ∀ k o l, r[k]? = some (o, l) →
    ∃ p, ps[k]? = some p ∧ ∀ i oi li, (ahead ++ r)[i]? = some (oi, li) → i < ahead.length + k → i ∈ p ∨ (l = false ∧ li = false ∧ clash ops oi o = false)
  | [], ahead, ps, h, k, o, l, hk => by simp at hk
  | (o', l') :: r, ahead, [], h, k, o, l, hk => by simp [drawOkGo] at h
  | (o', l') :: r, ahead, p :: ps, h, k, o, l, hk => by
    simp only [drawOkGo] at h
    split at h
    · rename_i hp
      cases k with
      | zero =>
        simp at hk
        obtain ⟨rfl, rfl⟩ := hk
        refine ⟨p, rfl, fun i oi li hi hlt => ?_⟩
        rw [List.getElem?_append_left (by omega)] at hi
        have := pairOk_ok hp i oi li hi
        simpa using this
      | succ k =>
        obtain ⟨p', h1, h2⟩ := drawOkGo_ok h k o l (by simpa using hk)
        refine ⟨p', by simpa using h1, fun i oi li hi hlt => h2 i oi li ?_ ?_⟩
        · simpa using hi
        · simp; omega
    · cases h

theorem allPreds_length : ∀ {l : List Oper} {acc : List (List Nat)}, (allPreds l acc).length = acc.length + l.length
  | [], acc => by simp [allPreds]
  | o :: l, acc => by simp only [allPreds]; rw [allPreds_length]; simp; omega

theorem allPreds_old : ∀ {l : List Oper} {acc : List (List Nat)} {j : Nat}, j < acc.length → (allPreds l acc)[j]? = acc[j]?
  | [], acc, j, _ => rfl
  | o :: l, acc, j, h => by
    simp only [allPreds]
    rw [allPreds_old (by simp; omega), List.getElem?_append_left h]

theorem allPreds_take : ∀ {l : List Oper} {acc : List (List Nat)}, (allPreds l acc).take acc.length = acc
  | l, acc => by
    apply List.ext_getElem?
    intro j
    rw [List.getElem?_take]
    split
    · rename_i h; exact allPreds_old h
    · rename_i h; rw [List.getElem?_eq_none (by omega)]

theorem allPreds_get : ∀ {l : List Oper} {acc : List (List Nat)} {k : Nat} {o : Oper}, l[k]? = some o → (allPreds l acc)[acc.length + k]? = some (predsOf ((allPreds l acc).take (acc.length + k)) o)
  | [], acc, k, o, h => by simp at h
  | o' :: l, acc, 0, o, h => by
    simp at h; subst h
    simp only [allPreds, Nat.add_zero]
    rw [allPreds_old (by simp)]
    have : (allPreds l (acc ++ [predsOf acc o'])).take acc.length = acc := by
      have := allPreds_take (l := l) (acc := acc ++ [predsOf acc o'])
      have h2 := congrArg (List.take acc.length) this
      rw [List.take_take] at h2
      simpa using h2
    rw [this]; simp
  | o' :: l, acc, k + 1, o, h => by
    simp only [allPreds]
    have := allPreds_get (l := l) (acc := acc ++ [predsOf acc o']) (k := k) (o := o) (by simpa using h)
    simp only [List.length_append, List.length_singleton] at this
    rwa [show acc.length + 1 + k = acc.length + (k + 1) by omega] at this

/-- a set that holds what must come ahead of each of its own holds all that must come ahead -/
theorem preds_closed {ops : Array Oper} {E : Nat → Prop} (hE : ∀ (j : Nat) (o : Oper), E j → ops[j]? = some o → ∀ e ∈ o.after, Region.binds .any e = true → E e.on) :
    ∀ (j : Nat) (p : List Nat), E j → (allPreds ops.toList [])[j]? = some p → ∀ i ∈ p, E i := by
  intro j
  induction j using Nat.strongRecOn with
  | _ j ih =>
    intro p hj hp i hi
    have hlt : j < ops.size := by have := lt_of_get hp; rw [allPreds_length] at this; simpa using this
    have hoj : ops.toList[j]? = some ops[j] := by simp [hlt]
    have := allPreds_get (acc := []) hoj
    simp only [List.length_nil, Nat.zero_add] at this
    rw [this] at hp
    cases hp
    unfold predsOf at hi
    obtain ⟨e, he, hi⟩ := List.mem_flatMap.1 hi
    obtain ⟨he, hb⟩ := List.mem_filter.1 he
    have hon : E e.on := hE j ops[j] hj (by simp [hlt]) e (by simpa using he) hb
    rcases List.mem_cons.1 hi with rfl | hi
    · exact hon
    · have hget : ((allPreds ops.toList []).take j)[e.on]? = some (((allPreds ops.toList []).take j).getD e.on []) := by
        cases hq : ((allPreds ops.toList []).take j)[e.on]? with
        | none => rw [List.getD_eq_getElem?_getD, hq] at hi; simp at hi
        | some q => rw [List.getD_eq_getElem?_getD, hq]; rfl
      rw [List.getElem?_take] at hget
      split at hget
      · rename_i hl
        exact ih e.on hl _ hon hget i hi
      · cases hget

theorem clash_false {ops : Array Oper} {i j : Oper} (h : clash ops i j = false) :
    (∀ d, i.dst = some d → d ∉ looks ops j) ∧ (∀ d, i.dst = some d → j.dst ≠ some d) ∧ (∀ d, j.dst = some d → d ∉ looks ops i) := by
  unfold clash at h
  split at h
  · rename_i d hd
    split at h
    · cases h
    · rename_i h1
      have h1 : d ∉ looks ops j := fun hm => h1 (memN_iff.2 hm)
      refine ⟨(fun d' hd' => by rw [hd] at hd'; cases hd'; exact h1), ?_⟩
      split at h
      · rename_i e he
        split at h
        · cases h
        · rename_i h2
          refine ⟨fun d' hd' hj => ?_, fun e' he' hm => ?_⟩
          · rw [hd] at hd'; cases hd'; rw [he] at hj; cases hj; simp at h2
          · rw [he] at he'; cases he'; rw [memN_iff.2 hm] at h; cases h
      · rename_i he
        exact ⟨(fun d' hd' hj => by rw [he] at hj; cases hj), (fun e' he' => by rw [he] at he'; cases he')⟩
  · rename_i hd
    refine ⟨(fun d' hd' => by rw [hd] at hd'; cases hd'), (fun d' hd' => by rw [hd] at hd'; cases hd'), fun e he hm => ?_⟩
    split at h
    · rename_i e' he'
      rw [he] at he'; cases he'; rw [memN_iff.2 hm] at h; cases h
    · rename_i he'; rw [he] at he'; cases he'

theorem looks_tmp {ops : Array Oper} {o : Oper} {t : Tmp} (h : Operand.tmp t ∈ o.op.operands.toList) : t ∈ looks ops o :=
  List.mem_append_left _ (List.mem_filterMap.2 ⟨_, h, rfl⟩)

theorem looks_guard {ops : Array Oper} {o : Oper} {t : Tmp} (h : gslot ops o = some t) : t ∈ looks ops o := by
  unfold gslot at h
  split at h
  · rename_i g b hg
    refine List.mem_append_right _ ?_
    simp only [hg]
    rw [h]; simp
  · cases h

/-! ### the frame behind a part of the operations -/
section
variable (ops : Array Oper) (M : Nat → List Nat) (X : Nat → AV) (E : Nat → Bool) (fr0 : Fr)

def fE : Nat → Fr
  | 0 => fr0
  | k + 1 => if E k then putF ((fE k).map (psAV (M k))) ((ops[k]?).bind (·.dst)) (X k) else fE k
end

theorem putF_ne {fr : Fr} {dst : Option Tmp} {x : AV} {t : Nat} (h : dst ≠ some t) : (putF fr dst x)[t]? = fr[t]? := by
  cases dst with
  | none => rfl
  | some d => simp only [putF]; rw [List.getElem?_set_ne (fun e => h (by rw [e]))]

theorem putF_congr {fr fr' : Fr} {dst : Option Tmp} {x : AV} {t : Nat} (h : fr[t]? = fr'[t]?) (hl : fr.length = fr'.length) : (putF fr dst x)[t]? = (putF fr' dst x)[t]? := by
  cases dst with
  | none => exact h
  | some d =>
    simp only [putF]
    rw [List.getElem?_set, List.getElem?_set]
    split
    · rw [hl]
    · exact h

theorem putF_length {fr : Fr} {dst : Option Tmp} {x : AV} : (putF fr dst x).length = fr.length := by cases dst <;> simp [putF]

theorem fE_length {ops : Array Oper} {M : Nat → List Nat} {X : Nat → AV} {E : Nat → Bool} {fr0 : Fr} : ∀ k, (fE ops M X E fr0 k).length = fr0.length
  | 0 => rfl
  | k + 1 => by
    simp only [fE]
    split
    · rw [putF_length, List.length_map]; exact fE_length k
    · exact fE_length k

/-- what is known of a region that may come up in any order -/
structure Dr (C : Cfg) (ops : Array Oper) (S : Nat → St) (M : Nat → List Nat) (X : Nat → AV) (F : Nat → Bool) : Prop where
  step : ∀ (j : Nat) (o : Oper), ops[j]? = some o → StepJ C ops o (S j) (M j) (X j) (F j) (S (j + 1))
  ord : ∀ (i j : Nat) (oi oj : Oper), i < j → ops[i]? = some oi → ops[j]? = some oj → (∃ p, (allPreds ops.toList [])[j]? = some p ∧ i ∈ p) ∨ (F j = false ∧ F i = false ∧ clash ops oi oj = false)

/-- a set of operations that may have been carried out -/
structure Down (ops : Array Oper) (E : Nat → Bool) : Prop where
  dir : ∀ (j : Nat) (o : Oper), E j = true → ops[j]? = some o → ∀ e ∈ o.after, Region.binds .any e = true → E e.on = true
  lt : ∀ j, E j = true → j < ops.size

theorem Down.pred {ops : Array Oper} {E : Nat → Bool} (D : Down ops E) {j : Nat} {p : List Nat} (hj : E j = true) (hp : (allPreds ops.toList [])[j]? = some p) {i : Nat} (hi : i ∈ p) : E i = true :=
  preds_closed (E := fun j => E j = true) D.dir j p hj hp i hi

section
variable {C : Cfg} {ops : Array Oper} {S : Nat → St} {M : Nat → List Nat} {X : Nat → AV} {F : Nat → Bool} (D : Dr C ops S M X F)
include D

theorem Dr.heap_eq {k k' : Nat} (hk : k ≤ k') (hn : k' ≤ ops.size) (hq : ∀ j, k ≤ j → j < k' → F j = false) : (S k').h = (S k).h ∧ (S k').mv = (S k).mv := by
  induction k' with
  | zero => have : k = 0 := by omega
            subst this; exact ⟨rfl, rfl⟩
  | succ k' ih =>
    by_cases h : k = k' + 1
    · subst h; exact ⟨rfl, rfl⟩
    · have hlt : k' < ops.size := by omega
      have hs := D.step k' ops[k'] (by simp [hlt])
      obtain ⟨h1, h2⟩ := hs.quiet (hq k' (by omega) (by omega))
      obtain ⟨h3, h4⟩ := ih (by omega) (by omega) fun j h1 h2 => hq j h1 (by omega)
      rw [h1, hs.mv, h2]
      exact ⟨h3, h4⟩

/-- q is ready: those that must come ahead are done, it isn't -/
theorem Dr.loud_iff {E : Nat → Bool} (hE : Down ops E) {q : Nat} {oq : Oper} (hq : ops[q]? = some oq) (hnot : E q = false) (hpre : ∀ p, (allPreds ops.toList [])[q]? = some p → ∀ i ∈ p, E i = true)
    {j : Nat} (hj : j < ops.size) (hjq : j ≠ q) (hl : F j = true ∨ F q = true) : E j = true ↔ j < q := by
  have hoj : ops[j]? = some ops[j] := by simp [hj]
  rcases Nat.lt_or_gt_of_ne hjq with h | h
  · refine ⟨fun _ => h, fun _ => ?_⟩
    rcases D.ord j q _ _ h hoj hq with ⟨p, hp, hi⟩ | ⟨h1, h2, _⟩
    · exact hpre p hp j hi
    · rcases hl with hl | hl
      · rw [h2] at hl; cases hl
      · rw [h1] at hl; cases hl
  · refine ⟨fun hE1 => ?_, fun h' => by omega⟩
    exfalso
    rcases D.ord q j _ _ h hq hoj with ⟨p, hp, hi⟩ | ⟨h1, h2, _⟩
    · have := hE.pred hE1 hp hi; rw [hnot] at this; cases this
    · rcases hl with hl | hl
      · rw [h1] at hl; cases hl
      · rw [h2] at hl; cases hl

/-- what a ready operation looks at is in its slot as in the text's order -/
theorem Dr.slot_eq {E : Nat → Bool} (hE : Down ops E) {q : Nat} {oq : Oper} (hq : ops[q]? = some oq) (hnot : E q = false) (hpre : ∀ p, (allPreds ops.toList [])[q]? = some p → ∀ i ∈ p, E i = true)
    {t : Nat} (ht : t ∈ looks ops oq) : (fE ops M X E (S 0).fr ops.size)[t]? = (S q).fr[t]? := by
  have hqn : q < ops.size := (Array.getElem?_eq_some_iff.1 hq).1
  -- ahead of q
  have h1 : ∀ j, j ≤ q → (fE ops M X E (S 0).fr j)[t]? = (S j).fr[t]? ∧ (S j).fr.length = (S 0).fr.length := by
    intro j hj
    induction j with
    | zero => exact ⟨rfl, rfl⟩
    | succ j ih =>
      obtain ⟨ih1, ih2⟩ := ih (by omega)
      have hjn : j < ops.size := by omega
      have hoj : ops[j]? = some ops[j] := by simp [hjn]
      have hs := D.step j _ hoj
      have hlen : (S (j + 1)).fr.length = (S 0).fr.length := by rw [hs.fr, putF_length, List.length_map, ih2]
      refine ⟨?_, hlen⟩
      simp only [fE]
      rw [hs.fr, hoj]
      simp only [Option.bind_some]
      cases hEj : E j with
      | true =>
        simp only [if_true]
        refine putF_congr ?_ (by rw [List.length_map, List.length_map, fE_length, ih2])
        rw [List.getElem?_map, List.getElem?_map, ih1]
      | false =>
        simp only [Bool.false_eq_true, if_false]
        have hnl : ¬ (F j = true ∨ F q = true) := fun hl => by
          have := (D.loud_iff hE hq hnot hpre hjn (by omega) hl).2 (by omega)
          rw [hEj] at this; cases this
        have hFj : F j = false := by cases h : F j <;> simp_all
        have hd : (ops[j]).dst ≠ some t := fun hd => by
          rcases D.ord j q _ _ (by omega) hoj hq with ⟨p, hp, hi⟩ | ⟨_, _, hc⟩
          · have := hpre p hp j hi; rw [hEj] at this; cases this
          · exact (clash_false hc).1 t hd ht
        rw [putF_ne hd, (hs.quiet hFj).2, map_psAV_nil]
        exact ih1
  -- behind q
  have h2 : ∀ k, q + k ≤ ops.size → (fE ops M X E (S 0).fr (q + k))[t]? = (fE ops M X E (S 0).fr q)[t]? := by
    intro k
    induction k with
    | zero => intro _; rfl
    | succ k ih =>
      intro hk
      have ih := ih (by omega)
      have hjn : q + k < ops.size := by omega
      have hoj : ops[q + k]? = some ops[q + k] := by simp [hjn]
      rw [show q + (k + 1) = (q + k) + 1 by omega]
      simp only [fE]
      cases hEj : E (q + k) with
      | false => simpa using ih
      | true =>
        have hne : q + k ≠ q := fun e => by rw [e] at hEj; rw [hnot] at hEj; cases hEj
        have hnl : ¬ (F (q + k) = true ∨ F q = true) := fun hl => by
          have := (D.loud_iff hE hq hnot hpre hjn hne hl).1 hEj
          omega
        have hFj : F (q + k) = false := by cases h : F (q + k) <;> simp_all
        have hd : (ops[q + k]).dst ≠ some t := fun hd => by
          rcases D.ord q (q + k) _ _ (by omega) hq hoj with ⟨p, hp, hi⟩ | ⟨_, _, hc⟩
          · have := hE.pred hEj hp hi; rw [hnot] at this; cases this
          · exact (clash_false hc).2.2 t hd ht
        simp only [if_true]
        rw [hoj]
        simp only [Option.bind_some]
        rw [putF_ne hd, ((D.step _ _ hoj).quiet hFj).2, map_psAV_nil]
        exact ih
  have := h2 (ops.size - q) (by omega)
  rw [show q + (ops.size - q) = ops.size by omega] at this
  rw [this]
  exact (h1 q (Nat.le_refl _)).1

def ins (E : Nat → Bool) (q : Nat) : Nat → Bool := fun j => if j = q then true else E j

/-- a quiet operation more -/
theorem Dr.ins_quiet {E : Nat → Bool} (hE : Down ops E) {q : Nat} {oq : Oper} (hq : ops[q]? = some oq) (hnot : E q = false) (hpre : ∀ p, (allPreds ops.toList [])[q]? = some p → ∀ i ∈ p, E i = true)
    (hF : F q = false) (t : Nat) : (fE ops M X (ins E q) (S 0).fr ops.size)[t]? = (putF (fE ops M X E (S 0).fr ops.size) oq.dst (X q))[t]? := by
  have hqn : q < ops.size := (Array.getElem?_eq_some_iff.1 hq).1
  have h1 : ∀ j, j ≤ q → fE ops M X (ins E q) (S 0).fr j = fE ops M X E (S 0).fr j := by
    intro j hj
    induction j with
    | zero => rfl
    | succ j ih =>
      simp only [fE]
      rw [ih (by omega)]
      have : ins E q j = E j := by unfold ins; rw [if_neg (by omega)]
      rw [this]
  have h2 : ∀ k, q + 1 + k ≤ ops.size → (fE ops M X (ins E q) (S 0).fr (q + 1 + k))[t]? = (putF (fE ops M X E (S 0).fr (q + 1 + k)) oq.dst (X q))[t]? := by
    intro k
    induction k with
    | zero =>
      intro _
      simp only [fE]
      have hi : ins E q q = true := by simp [ins]
      rw [hi, hnot, hq]
      simp only [if_true, Bool.false_eq_true, if_false, Option.bind_some]
      rw [h1 q (Nat.le_refl _), ((D.step q oq hq).quiet hF).2, map_psAV_nil]
    | succ k ih =>
      intro hk
      have ih := ih (by omega)
      have hjn : q + 1 + k < ops.size := by omega
      have hoj : ops[q + 1 + k]? = some ops[q + 1 + k] := by simp [hjn]
      rw [show q + 1 + (k + 1) = (q + 1 + k) + 1 by omega]
      simp only [fE]
      have hi : ins E q (q + 1 + k) = E (q + 1 + k) := by unfold ins; rw [if_neg (by omega)]
      rw [hi]
      cases hEj : E (q + 1 + k) with
      | false => simpa using ih
      | true =>
        have hne : q + 1 + k ≠ q := by omega
        have hnl : ¬ (F (q + 1 + k) = true ∨ F q = true) := fun hl => by
          have := (D.loud_iff hE hq hnot hpre hjn hne hl).1 hEj
          omega
        have hFj : F (q + 1 + k) = false := by cases h : F (q + 1 + k) <;> simp_all
        have hcl : clash ops oq ops[q + 1 + k] = false := by
          rcases D.ord q (q + 1 + k) _ _ (by omega) hq hoj with ⟨p, hp, hi⟩ | ⟨_, _, hc⟩
          · have := hE.pred hEj hp hi; rw [hnot] at this; cases this
          · exact hc
        have hdd := (clash_false hcl).2.1
        simp only [if_true]
        rw [hoj]
        simp only [Option.bind_some]
        rw [((D.step _ _ hoj).quiet hFj).2, map_psAV_nil, map_psAV_nil]
        have hlen : (fE ops M X (ins E q) (S 0).fr (q + 1 + k)).length = (putF (fE ops M X E (S 0).fr (q + 1 + k)) oq.dst (X q)).length := by rw [putF_length, fE_length, fE_length]
        rw [putF_congr ih hlen]
        -- two puts at two places
        generalize fE ops M X E (S 0).fr (q + 1 + k) = f
        cases hq1 : oq.dst with
        | none => rfl
        | some d =>
          cases hq2 : (ops[q + 1 + k]).dst with
          | none => rfl
          | some d' =>
            have : d ≠ d' := fun e => hdd d hq1 (by rw [hq2, e])
            simp only [putF]
            rw [List.set_comm _ _ this]
  have := h2 (ops.size - (q + 1)) (by omega)
  rwa [show q + 1 + (ops.size - (q + 1)) = ops.size by omega] at this

/-- all ahead of a loud operation are done, none behind it: the frame is the text's -/
theorem Dr.fr_exact {E : Nat → Bool} {q : Nat} (hqn : q ≤ ops.size) (h : ∀ j, j < ops.size → (E j = true ↔ j < q)) : fE ops M X E (S 0).fr ops.size = (S q).fr := by
  have h1 : ∀ j, j ≤ q → fE ops M X E (S 0).fr j = (S j).fr := by
    intro j hj
    induction j with
    | zero => rfl
    | succ j ih =>
      have hjn : j < ops.size := by omega
      have hoj : ops[j]? = some ops[j] := by simp [hjn]
      simp only [fE]
      rw [(h j hjn).2 (by omega), ih (by omega), (D.step j _ hoj).fr, hoj]
      rfl
  have h2 : ∀ k, q + k ≤ ops.size → fE ops M X E (S 0).fr (q + k) = (S q).fr := by
    intro k
    induction k with
    | zero => intro _; exact h1 q (Nat.le_refl _)
    | succ k ih =>
      intro hk
      rw [show q + (k + 1) = (q + k) + 1 by omega]
      simp only [fE]
      have : E (q + k) = false := by
        cases hE : E (q + k) with
        | false => rfl
        | true => have := (h (q + k) (by omega)).1 hE; omega
      rw [this]
      simpa using ih (by omega)
  have := h2 (ops.size - q) (by omega)
  rwa [show q + (ops.size - q) = ops.size by omega] at this
end

end Ev

namespace Ev
open Go

theorem edgesOk_ok : ∀ {l : List Oper} {j : Nat}, edgesOk j l = true → ∀ k o, l[k]? = some o → ∀ e ∈ o.after, Region.binds .any e = true → e.on < j + k
  | [], j, h, k, o, hk => by simp at hk
  | o' :: l, j, h, k, o, hk => by
    simp only [edgesOk] at h
    split at h
    · rename_i hall
      cases k with
      | zero =>
        simp at hk; subst hk
        intro e he hb
        have := allB_ok hall e (by simpa using he)
        simp only [hb, if_true] at this
        have := Nat.le_of_ble_eq_true this
        omega
      | succ k =>
        intro e he hb
        have := edgesOk_ok h k o (by simpa using hk) e he hb
        omega
    · cases h

theorem StepJ.wrp {C : Cfg} {ops : Array Oper} {o : Oper} {s s' : St} {m : List Nat} {x : AV} {l : Bool} (h : StepJ C ops o s m x l s') {h0 : Heap}
    (hw : ∀ (i : Nat), i < s.wr → i < h0.length → s.h[i]? = h0[i]?) : ∀ (i : Nat), i < s'.wr → i < h0.length → s'.h[i]? = h0[i]? := by
  cases h with
  | run x h' wr m l hg hop =>
    intro i hi hl
    have hm := minN_le s.wr wr
    simp only at hi
    have h1 := hw i (by omega) hl
    have hlt : i < s.h.length := by
      rw [List.getElem?_eq_getElem hl] at h1
      exact lt_of_get h1
    show h'[i]? = _
    rw [hop.wr i (by omega) hlt, h1]
  | skip => exact hw

def lst (listed : Array Bool) (j : Nat) : Bool := listed.getD j false

theorem lst_set {listed : Array Bool} {q : Nat} (hq : q < listed.size) : lst (listed.setIfInBounds q true) = ins (lst listed) q := by
  funext j
  unfold lst ins
  by_cases h : j = q
  · subst h; simp [hq]
  · rw [if_neg h]
    simp [Array.getElem?_setIfInBounds_ne (Ne.symm h)]

theorem getD_ff {listed : Array Bool} {j : Nat} (h : j < listed.size) : listed.getD j true = lst listed j := by simp [lst, h]

theorem count_set {l : List Bool} {q : Nat} (h : l[q]? = some false) : (l.set q true).count false + 1 = l.count false := by
  induction l generalizing q with
  | nil => simp at h
  | cons b l ih =>
    cases q with
    | zero => simp at h; subst h; simp
    | succ q =>
      have := ih (q := q) (by simpa using h)
      cases b <;> simp <;> omega

/-- whatever order comes up -/
theorem Dr.any {C : Cfg} {ops : Array Oper} {S : Nat → St} {M : Nat → List Nat} {X : Nat → AV} {F : Nat → Bool} (D : Dr C ops S M X F)
    (hed : ∀ (j : Nat) (o : Oper), ops[j]? = some o → ∀ e ∈ o.after, Region.binds .any e = true → e.on < j)
    {α0 : Nat → Loc} {h0 : Heap} {w0 : World} (hwr0 : ∀ (i : Nat), i < (S 0).wr → i < h0.length → (S 0).h[i]? = h0[i]?) {Q : Exit → Act → World → Prop}
    (hQ : ∀ α a w, Rel C α0 h0 w0 α (S ops.size) a w → Q .normal a w) :
    ∀ (fuel : Nat) (listed : Array Bool) (a : Act) (w : World) (α : Nat → Loc) (k : Nat), listed.size = ops.size → Down ops (lst listed) → listed.toList.count false = fuel →
      k ≤ ops.size → (∀ j, j < ops.size → F j = true → (lst listed j = true ↔ j < k)) → Rel C α0 h0 w0 α ⟨fE ops M X (lst listed) (S 0).fr ops.size, (S k).h, 0, (S k).mv⟩ a w →
      wpAny C.P .any ops Q fuel listed a w := by
  -- all is done
  have fin : ∀ (listed : Array Bool) (a : Act) (w : World) (α : Nat → Loc) (k : Nat), (∀ j, j < ops.size → lst listed j = true) → k ≤ ops.size → (∀ j, j < ops.size → F j = true → (lst listed j = true ↔ j < k)) →
      Rel C α0 h0 w0 α ⟨fE ops M X (lst listed) (S 0).fr ops.size, (S k).h, 0, (S k).mv⟩ a w → Q .normal a w := by
    intro listed a w α k hall hk hiff R
    have hfr := D.fr_exact (E := lst listed) (q := ops.size) (Nat.le_refl _) fun j hj => ⟨fun _ => hj, fun _ => hall j hj⟩
    obtain ⟨hh, hm⟩ := D.heap_eq hk (Nat.le_refl _) fun j h1 h2 => by
      cases hF : F j with
      | false => rfl
      | true => have := (hiff j h2 hF).1 (hall j h2); omega
    have hwr : ∀ n, n ≤ ops.size → ∀ (i : Nat), i < (S n).wr → i < h0.length → (S n).h[i]? = h0[i]? := by
      intro n
      induction n with
      | zero => intro _; exact hwr0
      | succ n ih =>
        intro hn
        have hlt : n < ops.size := by omega
        exact (D.step n ops[n] (by simp [hlt])).wrp (ih (by omega))
    refine hQ α a w ⟨?_, ?_, ?_, ?_, ?_, ?_, hwr ops.size (Nat.le_refl _), R.df⟩
    · rw [hh, hm]; exact R.stp
    · rw [hh]; exact R.sat
    · rw [← hfr]; exact R.slot
    · rw [← hfr, hh]; exact R.wf
    · rw [hh]; exact R.hwf
    · rw [hh]; exact R.gl
  intro fuel
  induction fuel with
  | zero =>
    intro listed a w α k hsz hdn hcnt hk hiff R
    have hall : ∀ j, j < ops.size → lst listed j = true := fun j hj => by
      cases hb : lst listed j with
      | true => rfl
      | false =>
        exfalso
        have hmem : false ∈ listed.toList := by
          have hj' : j < listed.size := by omega
          have : listed[j] = false := by have := hb; simpa [lst, hj'] using this
          rw [← this]; exact Array.getElem_mem_toList hj'
        have := List.count_pos_iff.2 hmem
        omega
    refine ⟨?_, fin listed a w α k hall hk hiff R⟩
    cases hr : Region.ready .any ops listed with
    | nil => rfl
    | cons q r =>
      exfalso
      have hm : q ∈ Region.ready .any ops listed := by rw [hr]; simp
      obtain ⟨h1, o, ho, _⟩ := mem_ready.1 hm
      have hq : q < ops.size := (Array.getElem?_eq_some_iff.1 ho).1
      rw [getD_ff (by omega), hall q hq] at h1; cases h1
  | succ fuel ih =>
    intro listed a w α k hsz hdn hcnt hk hiff R
    refine ⟨fun hnil => ?_, fun q hq => ?_⟩
    · -- nothing is ready: all is done
      refine fin listed a w α k ?_ hk hiff R
      intro j
      induction j using Nat.strongRecOn with
      | _ j ihj =>
        intro hj
        cases hb : lst listed j with
        | true => rfl
        | false =>
          exfalso
          have hm : j ∈ Region.ready .any ops listed := mem_ready.2 ⟨by rw [getD_ff (by omega)]; exact hb, ops[j], by simp [hj], fun e he hbd => ihj e.on (hed j _ (by simp [hj]) e he hbd) (by have := hed j ops[j] (by simp [hj]) e he hbd; omega)⟩
          rw [hnil] at hm; cases hm
    · obtain ⟨h1, oq, hoq, hpre0⟩ := mem_ready.1 hq
      have hqn : q < ops.size := (Array.getElem?_eq_some_iff.1 hoq).1
      have hnot : lst listed q = false := by rw [← getD_ff (by omega)]; exact h1
      have hdn' : Down ops (ins (lst listed) q) := by
        refine ⟨fun j o hj ho e he hb => ?_, fun j hj => ?_⟩
        · unfold ins at hj ⊢
          by_cases hjq : j = q
          · subst hjq
            rw [hoq] at ho; cases ho
            split
            · rfl
            · exact hpre0 e he hb
          · rw [if_neg hjq] at hj
            split
            · rfl
            · exact hdn.dir j o hj ho e he hb
        · unfold ins at hj
          split at hj
          · omega
          · exact hdn.lt j hj
      have hpre : ∀ p, (allPreds ops.toList [])[q]? = some p → ∀ i ∈ p, lst listed i = true := fun p hp i hi => by
        have h2 := hdn'.pred (j := q) (by simp [ins]) hp hi
        unfold ins at h2
        split at h2
        · rename_i hiq
          -- q itself cannot be ahead of q
          exfalso
          subst hiq
          have hlt : ∀ (j : Nat) (p : List Nat), (allPreds ops.toList [])[j]? = some p → ∀ i ∈ p, i < j := by
            intro j
            induction j using Nat.strongRecOn with
            | _ j ihj =>
              intro p hp i hi
              have hjn : j < ops.size := by have := lt_of_get hp; rw [allPreds_length] at this; simpa using this
              have hoj : ops.toList[j]? = some ops[j] := by simp [hjn]
              have := allPreds_get (acc := []) hoj
              simp only [List.length_nil, Nat.zero_add] at this
              rw [this] at hp; cases hp
              unfold predsOf at hi
              obtain ⟨e, he, hi⟩ := List.mem_flatMap.1 hi
              obtain ⟨he, hb⟩ := List.mem_filter.1 he
              have hon := hed j ops[j] (by simp [hjn]) e (by simpa using he) hb
              rcases List.mem_cons.1 hi with rfl | hi
              · exact hon
              · have hget : ((allPreds ops.toList []).take j)[e.on]? = some (((allPreds ops.toList []).take j).getD e.on []) := by
                  cases hq : ((allPreds ops.toList []).take j)[e.on]? with
                  | none => rw [List.getD_eq_getElem?_getD, hq] at hi; simp at hi
                  | some q => rw [List.getD_eq_getElem?_getD, hq]; rfl
                rw [List.getElem?_take, if_pos hon] at hget
                have := ihj e.on hon _ hget i hi; omega
          have := hlt _ p hp _ hi
          omega
        · exact h2
      -- the heap is the text's
      have hheap : (S q).h = (S k).h ∧ (S q).mv = (S k).mv := by
        have hbetween : ∀ j, j < ops.size → j ≠ q → F j = true → (j < k ↔ j < q) := fun j hj hjq hF =>
          (hiff j hj hF).symm.trans (D.loud_iff hdn hoq hnot hpre hj hjq (.inl hF))
        rcases Nat.le_total k q with hkq | hkq
        · refine D.heap_eq hkq (by omega) fun j h1 h2 => ?_
          cases hF : F j with
          | false => rfl
          | true => have := (hbetween j (by omega) (by omega) hF).2 h2; omega
        · have := D.heap_eq hkq hk fun j h1 h2 => by
            cases hF : F j with
            | false => rfl
            | true =>
              by_cases hjq : j = q
              · subst hjq; have := (hiff j hqn hF).2 h2; rw [hnot] at this; cases this
              · have := (hbetween j (by omega) hjq hF).1 h2; omega
          exact ⟨this.1.symm, this.2.symm⟩
      have hslot := fun (t : Nat) (ht : t ∈ looks ops oq) => D.slot_eq hdn hoq hnot hpre ht
      have hyp : Hyp C oq.op.operands.toList (S q).fr (S q).h α w a := by
        refine ⟨fun t ht av hav => ?_, fun t ht av hav => ?_, ?_, ?_, ?_⟩
        · rw [← hslot t (looks_tmp ht)] at hav; exact R.slot t av hav
        · rw [← hslot t (looks_tmp ht)] at hav; rw [hheap.1]; exact R.wf t av hav
        · rw [hheap.1]; exact R.hwf
        · rw [hheap.1]; exact R.gl
        · rw [hheap.1]; exact R.sat
      have hgd : ∀ (t : Nat), gslot ops oq = some t → ∀ av, (S q).fr[t]? = some av → ∃ v, a.tmps[t]? = some v ∧ AVV α av v := fun t ht av hav => by
        rw [← hslot t (looks_guard ht)] at hav; exact R.slot t av hav
      have hstep := D.step q oq hoq
      have hlst := lst_set (listed := listed) (q := q) (by omega)
      have hcnt' : (listed.setIfInBounds q true).toList.count false = fuel := by
        have hb : listed.toList[q]? = some false := by
          have hq' : q < listed.size := by omega
          have : listed[q] = false := by have := hnot; simp [lst, hq'] at this; exact this
          simp [hq', this]
        have := count_set hb
        rw [Array.toList_setIfInBounds]; omega
      -- behind it
      have cont : ∀ (α' : Nat → Loc) (w' : World) (v : Value), Stp α (S q).h w α' (S (q + 1)).h w' (M q) → Sat α' (S (q + 1)).h w' → AVV α' (X q) v → avWF (S (q + 1)).h (X q) → heapWF (S (q + 1)).h →
          wpAny C.P .any ops Q fuel (listed.setIfInBounds q true) (a.put oq.dst v) w' := by
        intro α' w' v g1 g2 g3 g4 g5
        cases hF : F q with
        | true =>
          have hiff0 : ∀ j, j < ops.size → (lst listed j = true ↔ j < q) := fun j hj => by
            by_cases hjq : j = q
            · subst hjq; rw [hnot]; simp
            · exact D.loud_iff hdn hoq hnot hpre hj hjq (.inr hF)
          have hfr := D.fr_exact (E := lst listed) (q := q) (by omega) hiff0
          have hfr' := D.fr_exact (E := ins (lst listed) q) (q := q + 1) (by omega) fun j hj => by
            unfold ins
            by_cases hjq : j = q
            · rw [if_pos hjq]; simp; omega
            · rw [if_neg hjq]; rw [hiff0 j hj]; omega
          refine ih (listed.setIfInBounds q true) _ w' α' (q + 1) (by simpa using hsz) (by rw [hlst]; exact hdn') hcnt' (by omega) (fun j hj hFj => ?_) ?_
          · rw [hlst]; unfold ins
            by_cases hjq : j = q
            · rw [if_pos hjq]; simp; omega
            · rw [if_neg hjq]; rw [hiff0 j hj]; omega
          · rw [hlst, hfr', hstep.fr, hstep.mv]
            have R1 : Rel C α0 h0 w0 α ⟨(S q).fr, (S q).h, 0, (S q).mv⟩ a w := by
              rw [hheap.1, hheap.2, ← hfr]; exact R
            have := R1.step (dst := oq.dst) (wr := 0) g1 g2 g3 g4 g5 (fun i hi => by omega)
            exact this
        | false =>
          obtain ⟨e1, e2⟩ := hstep.quiet hF
          refine ih (listed.setIfInBounds q true) _ w' α' k (by simpa using hsz) (by rw [hlst]; exact hdn') hcnt' hk (fun j hj hFj => ?_) ?_
          · rw [hlst]; unfold ins
            by_cases hjq : j = q
            · subst hjq; rw [hF] at hFj; cases hFj
            · rw [if_neg hjq]; exact hiff j hj hFj
          · rw [hlst]
            rw [e2] at g1
            rw [e1, hheap.1] at g1 g2 g4 g5
            have R1 := R.step (dst := oq.dst) (wr := 0) g1 g2 g3 g4 g5 (fun i hi => by omega)
            rw [map_psAV_nil] at R1
            have hget := fun t => D.ins_quiet hdn hoq hnot hpre hF t
            exact {
              stp := R1.stp
              sat := R1.sat
              slot := fun t av ht => R1.slot t av (by rw [hget] at ht; exact ht)
              wf := fun t av ht => R1.wf t av (by rw [hget] at ht; exact ht)
              hwf := R1.hwf
              gl := R1.gl
              wr := fun i hi => by cases hi
              df := R1.df }
      unfold wpOp
      simp only [hoq]
      generalize hm : M q = mq at *
      generalize hx : X q = xq at *
      generalize hl : F q = lq at *
      generalize hs1 : S (q + 1) = s1 at *
      cases hstep with
      | run _ h' wr _ _ hg hop =>
        rw [hg α a hgd]
        simp only [if_true]
        exact .inl (hop.run α w a hyp _ _ fun α' w' v g1 g2 g3 g4 g5 => cont α' w' v g1 g2 g3 g4 g5)
      | skip hg =>
        rw [hg α a hgd]
        simp only [Bool.false_eq_true, if_false]
        refine cont α w undef ?_ ?_ (AVV.undef α) (fun x hx => by cases hx) ?_
        · exact Stp.refl _ _ _
        · exact hyp.sat
        · exact hyp.hwf

end Ev

namespace Ev
open Go

/-! ## Code -/
theorem Rel.drew {C : Cfg} {α0 : Nat → Loc} {h0 : Heap} {w0 : World} {α : Nat → Loc} {s : St} {a : Act} {w : World} (R : Rel C α0 h0 w0 α s a w) : Rel C α0 h0 w0 α s a { w with drawn := w.drawn + 1 } where
  stp := ⟨R.stp.os, R.stp.tape, R.stp.output, R.stp.size, R.stp.frame, R.stp.al, R.stp.shape, R.stp.newb, R.stp.mv⟩
  sat := ⟨fun i b hb => let k := R.sat.blk i b hb; ⟨k.ex, k.nl⟩, R.sat.sep⟩
  slot := R.slot
  wf := R.wf
  hwf := R.hwf
  gl := R.gl
  wr := R.wr
  df := R.df

/-- the old blocks that were not written: of this, nothing of the run is needed -/
def WrS (s s' : St) : Prop := ∀ (h0 : Heap), (∀ (i : Nat), i < s.wr → i < h0.length → s.h[i]? = h0[i]?) → ∀ (i : Nat), i < s'.wr → i < h0.length → s'.h[i]? = h0[i]?

theorem WrS.refl (s : St) : WrS s s := fun _ h => h

theorem WrS.trans {s s' s'' : St} (h1 : WrS s s') (h2 : WrS s' s'') : WrS s s'' := fun h0 h => h2 h0 (h1 h0 h)

theorem Tr.wrs {C : Cfg} {ops : Array Oper} {l : List Oper} {s s' : St} {fl : List Bool} (h : Tr C ops l s fl s') : WrS s s' := by
  induction h with
  | nil s => exact .refl s
  | cons h1 _ ih => exact fun h0 hw => ih h0 (h1.wrp hw)

theorem region_ok {β : Type} {C : Cfg} (P : ProgOk C.P) {call : Call β} (hc : CallOk C call) {id : Nat} {ops : Array Oper} {draw : Bool} {s : St} {K : St → Option β} {r : β}
    (e : evOps C call ops.toList ops.toList s [] (fun st fl => if draw then (if drawOk ops fl then K st else none) else K st) = some r) :
    ∃ s', K s' = some r ∧ WrS s s' ∧ ∀ (α0 : Nat → Loc) (h0 : Heap) (w0 : World) (Q : Exit → Act → World → Prop), (∀ α a w, Rel C α0 h0 w0 α s' a w → Q .normal a w) → ∀ α a w, Rel C α0 h0 w0 α s a w → (Code.region id ops draw).wp C.P Q a w := by
  obtain ⟨s', fl, e1, ht⟩ := evOps_inv P hc e
  cases draw with
  | false =>
    simp only [Bool.false_eq_true, if_false] at e1
    refine ⟨s', e1, ht.wrs, fun α0 h0 w0 Q hQ α a w R => wp_region ?_⟩
    have := ht.wpOps (Q := Q) (i := 0) (by simp) hQ α a w R
    rw [List.range_eq_range']; simpa using this
  | true =>
    simp only [if_true, List.append_nil] at e1
    split at e1
    · rename_i hd
      refine ⟨s', e1, ht.wrs, fun α0 h0 w0 Q hQ α a w R => wp_region_any P.mixed ?_⟩
      unfold drawOk at hd
      split at hd
      · rename_i hed
        rw [List.reverse_reverse] at hd
        obtain ⟨S, M, X, F, h1, h2, h3, h4⟩ := ht.seq
        have D : Dr C ops S M X F := by
          refine ⟨fun j o ho => h4 j o (by simpa using ho), fun i j oi oj hij hoi hoj => ?_⟩
          have hjn : j < ops.size := (Array.getElem?_eq_some_iff.1 hoj).1
          have hin : i < ops.size := by omega
          have hfl : ∀ k, k < ops.size → fl[k]? = some (F k) := fun k hk => by rw [h3]; simp [hk]
          have hz : ∀ k o, k < ops.size → ops[k]? = some o → (ops.toList.zip fl)[k]? = some (o, F k) := fun k o hk ho => by
            rw [List.getElem?_zip_eq_some]
            exact ⟨by simpa using ho, hfl k hk⟩
          obtain ⟨p, hp, hall⟩ := drawOkGo_ok hd j oj (F j) (hz j oj hjn hoj)
          rcases hall i oi (F i) (by simpa using hz i oi hin hoi) (by simpa using hij) with h | h
          · exact .inl ⟨p, hp, h⟩
          · exact .inr h
        have hlen : ops.toList.length = ops.size := by simp
        rw [hlen] at h2
        have hlf : ∀ j, lst (Array.replicate ops.size false) j = false := fun j => by
          unfold lst
          rcases Nat.lt_or_ge j ops.size with hj | hj
          · simp [hj]
          · simp [hj]
        have hfe : ∀ k, fE ops M X (lst (Array.replicate ops.size false)) (S 0).fr k = (S 0).fr := fun k => by
          induction k with
          | zero => rfl
          | succ k ih => simp only [fE, hlf, Bool.false_eq_true, if_false]; exact ih
        refine D.any (fun j o ho e he hb => by have := edgesOk_ok hed j o (by simpa using ho) e he hb; omega) (α0 := α0) (h0 := h0) (w0 := w0) (by rw [h1]; exact R.wr) (by rw [h2]; exact hQ)
          ops.size _ a _ α 0 (by simp) ⟨(fun j o hj => by rw [hlf] at hj; cases hj), (fun j hj => by rw [hlf] at hj; cases hj)⟩ (by simp) (by omega) (fun j _ _ => by rw [hlf]; simp) ?_
        rw [hfe, h1]
        have R1 := R.drew
        exact ⟨R1.stp, R1.sat, R1.slot, R1.wf, R1.hwf, R1.gl, (fun i hi => by cases hi), R1.df⟩
      · cases hd
    · cases e1

def Ex.toExit : Ex → Exit
  | .normal => .normal
  | .exit id => .exit id
  | .goto l => .goto l
  | .ret => .ret

/-- where a run of code comes to -/
def Comes (C : Cfg) (s : St) (e : Ex) (s' : St) (wp : (Exit → Act → World → Prop) → Act → World → Prop) : Prop :=
  ∀ (α0 : Nat → Loc) (h0 : Heap) (w0 : World) (Q : Exit → Act → World → Prop), (∀ α a w, Rel C α0 h0 w0 α s' a w → Q e.toExit a w) → ∀ α a w, Rel C α0 h0 w0 α s a w → wp Q a w

/-- a way to run code is right -/
def RunOk {β : Type} (C : Cfg) (run : St → (Ex → St → Option β) → Option β) (c : Code) : Prop :=
  ∀ s K r, run s K = some r → ∃ e s', K e s' = some r ∧ WrS s s' ∧ Comes C s e s' (c.wp C.P)

theorem loopK_ok {β : Type} {C : Cfg} {body : St → (Ex → St → Option β) → Option β} {c : Code} (hb : RunOk C body c) : ∀ (k : Nat) (s : St) (K : Ex → St → Option β) (r : β), loopK body k s K = some r →
    ∃ e s', K e s' = some r ∧ WrS s s' ∧ Comes C s e s' (fun Q => Code.rounds C.P c Q k)
  | 0, s, K, r, e => by simp [loopK] at e
  | k + 1, s, K, r, e => by
    simp only [loopK] at e
    obtain ⟨ex, s1, he, hw1, hr⟩ := hb _ _ _ e
    have other : (∀ a w (Q : Exit → Act → World → Prop), Q ex.toExit a w → (match (generalizing := false) ex.toExit with | .normal => Code.rounds C.P c Q k a w | e => Q e a w)) → K ex s1 = some r →
        ∃ e s', K e s' = some r ∧ WrS s s' ∧ Comes C s e s' (fun Q => Code.rounds C.P c Q (k + 1)) := fun h1 h2 =>
      ⟨ex, s1, h2, hw1, fun α0 h0 w0 Q hQ α a w R => by
        show Code.rounds C.P c Q (k + 1) a w
        rw [rounds_succ]
        refine hr α0 h0 w0 _ (fun α' a' w' R' => ?_) α a w R
        have := h1 a' w' Q (hQ α' a' w' R')
        cases ex <;> exact this⟩
    cases ex with
    | normal =>
      obtain ⟨e2, s2, h1, hw2, h2⟩ := loopK_ok hb k s1 K r he
      refine ⟨e2, s2, h1, hw1.trans hw2, fun α0 h0 w0 Q hQ α a w R => ?_⟩
      show Code.rounds C.P c Q (k + 1) a w
      rw [rounds_succ]
      exact hr α0 h0 w0 _ (fun α' a' w' R' => h2 α0 h0 w0 Q hQ α' a' w' R') α a w R
    | exit id => exact other (fun a w Q h => h) he
    | goto l => exact other (fun a w Q h => h) he
    | ret => exact other (fun a w Q h => h) he

/-- within a scope: what is left of its body, and the jumps -/
def ScopeR (P : Program) (c : Code) (Q : Exit → Act → World → Prop) : Nat → Code → Act → World → Prop
  | 0, _, _, _ => False
  | n + 1, cur, a, w => cur.wp P (fun e a w => match e with
    | .goto l => (match findLabel c l with
      | some rest => ScopeR P c Q n rest a w
      | none => Q (.goto l) a w)
    | e => Q e a w) a w

theorem ScopeR.arrives {P : Program} {c : Code} {Q : Exit → Act → World → Prop} : ∀ (n : Nat) (cur : Code) (a : Act) (w : World), ScopeR P c Q n cur a w → ∀ (b : Frame) (k : List Item) (cs : List Frame),
    ∃ e a' w', Q e a' w' ∧ Arrives P (lone (b.at a (.code cur :: .inScope c :: k)) cs w) b k cs e a' w'
  | 0, _, _, _, h, _, _, _ => h.elim
  | n + 1, cur, a, w, h, b, k, cs => by
    obtain ⟨e, a₁, w₁, hq, harr⟩ := h b (.inScope c :: k) cs
    cases e with
    | normal => exact ⟨.normal, a₁, w₁, hq, Steps.trans harr (.one step_inScope)⟩
    | exit id => exact ⟨.exit id, a₁, w₁, hq, fun k' hk => harr k' (by simp [exitTo, hk])⟩
    | goto l =>
      simp only at hq
      split at hq
      · rename_i rest hf
        obtain ⟨e₂, a₂, w₂, hq₂, harr₂⟩ := ScopeR.arrives n rest a₁ w₁ hq b k cs
        exact ⟨e₂, a₂, w₂, hq₂, .of_steps (harr _ (by simp [gotoIn, hf])) harr₂⟩
      · rename_i hf
        exact ⟨.goto l, a₁, w₁, hq, fun k' hk => harr k' (by simp [gotoIn, hf, hk])⟩
    | ret => exact ⟨_, a₁, w₁, hq, harr⟩
    | panic ch => exact ⟨_, a₁, w₁, hq, harr⟩
    | outgrown => exact ⟨_, a₁, w₁, hq, harr⟩

theorem wp_scopeR {P : Program} {c : Code} {Q : Exit → Act → World → Prop} {n : Nat} {a : Act} {w : World} (h : ScopeR P c Q n c a w) : (Code.scope c).wp P Q a w := by
  intro b k cs
  obtain ⟨e, a', w', hq, harr⟩ := ScopeR.arrives n c a w h b k cs
  exact ⟨e, a', w', hq, .of_steps (.one step_scope) harr⟩

theorem scopeK_ok {β : Type} {C : Cfg} {run : Code → St → (Ex → St → Option β) → Option β} (hb : ∀ c, RunOk C (run c) c) {body : Code} : ∀ (k : Nat) (cur : Code) (s : St) (K : Ex → St → Option β) (r : β), scopeK run body k cur s K = some r →
    ∃ e s', K e s' = some r ∧ WrS s s' ∧ Comes C s e s' (fun Q => ScopeR C.P body Q k cur)
  | 0, cur, s, K, r, e => by simp [scopeK] at e
  | k + 1, cur, s, K, r, e => by
    simp only [scopeK] at e
    obtain ⟨ex, s1, he, hw1, hr⟩ := hb cur _ _ _ e
    cases ex with
    | normal => exact ⟨.normal, s1, he, hw1, fun α0 h0 w0 Q hQ α a w R => by
      show ScopeR C.P body Q (k + 1) cur a w
      simp only [ScopeR]
      exact hr α0 h0 w0 _ (fun α' a' w' R' => by exact hQ α' a' w' R') α a w R⟩
    | exit id => exact ⟨.exit id, s1, he, hw1, fun α0 h0 w0 Q hQ α a w R => by
      show ScopeR C.P body Q (k + 1) cur a w
      simp only [ScopeR]
      exact hr α0 h0 w0 _ (fun α' a' w' R' => by exact hQ α' a' w' R') α a w R⟩
    | goto l =>
      simp only at he
      cases hf : findLabel body l with
      | some rest =>
        simp only [hf] at he
        obtain ⟨e2, s2, h1, hw2, h2⟩ := scopeK_ok hb k rest s1 K r he
        refine ⟨e2, s2, h1, hw1.trans hw2, fun α0 h0 w0 Q hQ α a w R => ?_⟩
        show ScopeR C.P body Q (k + 1) cur a w
        simp only [ScopeR]
        refine hr α0 h0 w0 _ (fun α' a' w' R' => ?_) α a w R
        simp only [Ex.toExit, hf]
        exact h2 α0 h0 w0 Q hQ α' a' w' R'
      | none =>
        simp only [hf] at he
        refine ⟨.goto l, s1, he, hw1, fun α0 h0 w0 Q hQ α a w R => ?_⟩
        show ScopeR C.P body Q (k + 1) cur a w
        simp only [ScopeR]
        refine hr α0 h0 w0 _ (fun α' a' w' R' => ?_) α a w R
        simp only [Ex.toExit, hf]
        exact hQ α' a' w' R'
    | ret => exact ⟨.ret, s1, he, hw1, fun α0 h0 w0 Q hQ α a w R => by
      show ScopeR C.P body Q (k + 1) cur a w
      simp only [ScopeR]
      exact hr α0 h0 w0 _ (fun α' a' w' R' => by exact hQ α' a' w' R') α a w R⟩

/-- what is noted was so -/
theorem noteK_inv {β : Type} {C : Cfg} {fr : Fr} {c : Operand} {b : Bool} {K : Fr → Option β} {r : β} (h : Ev1 C fr c (.ac (.one (.val (.bool b))))) (e : noteK fr c b K = some r) : K fr = some r := by
  unfold noteK at e
  split at e
  · rename_i t
    have h : fr[t]? = some (.ac (.one (.val (.bool b)))) := h
    rw [setK_eq, set_same h] at e
    exact e
  · exact e

theorem evC_ok {β : Type} {C : Cfg} (P : ProgOk C.P) {call : Call β} (hc : CallOk C call) (lf : Nat) : ∀ (n : Nat) (c : Code), RunOk C (evC C call lf n c) c
  | 0, c => fun s K r e => by simp [evC] at e
  | n + 1, c => by
    intro s K r e
    simp only [evC] at e
    split at e
    · exact ⟨_, _, e, .refl _, fun α0 h0 w0 Q hQ α a w R => wp_skip (hQ α a w R)⟩
    · exact ⟨_, _, e, .refl _, fun α0 h0 w0 Q hQ α a w R => wp_label (hQ α a w R)⟩
    · rename_i id ops draw
      obtain ⟨s', e1, hw1, hr⟩ := region_ok (id := id) P hc e
      exact ⟨_, _, e1, hw1, fun α0 h0 w0 Q hQ α a w R => hr α0 h0 w0 Q hQ α a w R⟩
    · rename_i x y
      obtain ⟨ex, s1, he, hw1, hr⟩ := evC_ok P hc lf n x _ _ _ e
      cases ex with
      | normal =>
        obtain ⟨e2, s2, h1, hw2, h2⟩ := evC_ok P hc lf n y _ _ _ he
        exact ⟨e2, s2, h1, hw1.trans hw2, fun α0 h0 w0 Q hQ α a w R => wp_seq (hr α0 h0 w0 _ (fun α' a' w' R' => h2 α0 h0 w0 Q hQ α' a' w' R') α a w R)⟩
      | exit id => exact ⟨_, _, he, hw1, fun α0 h0 w0 Q hQ α a w R => wp_seq (hr α0 h0 w0 _ (fun α' a' w' R' => by exact hQ α' a' w' R') α a w R)⟩
      | goto l => exact ⟨_, _, he, hw1, fun α0 h0 w0 Q hQ α a w R => wp_seq (hr α0 h0 w0 _ (fun α' a' w' R' => by exact hQ α' a' w' R') α a w R)⟩
      | ret => exact ⟨_, _, he, hw1, fun α0 h0 w0 Q hQ α a w R => wp_seq (hr α0 h0 w0 _ (fun α' a' w' R' => by exact hQ α' a' w' R') α a w R)⟩
    · rename_i c0 x y
      obtain ⟨t, ht, e1⟩ := evalC_inv e
      obtain ⟨b, rfl, e2⟩ := boolK_inv e1
      have hv : ∀ (α0 : Nat → Loc) (h0 : Heap) (w0 : World) α a w, Rel C α0 h0 w0 α s a w → a.eval c0 = .bool b := fun α0 h0 w0 α a w R => by
        obtain ⟨h1, _⟩ := ht.okC (R.hyp [c0]) (by simp)
        generalize a.eval c0 = z at h1; cases h1; rename_i h1; cases h1; rfl
      rcases cond_inv e2 with ⟨rfl, e3⟩ | ⟨rfl, e3⟩
      · obtain ⟨ex, s1, he, hw1, hr⟩ := evC_ok P hc lf n x _ _ _ (noteK_inv ht e3)
        exact ⟨ex, s1, he, hw1, fun α0 h0 w0 Q hQ α a w R => wp_cond_true (hv α0 h0 w0 α a w R) (hr α0 h0 w0 Q hQ α a w R)⟩
      · obtain ⟨ex, s1, he, hw1, hr⟩ := evC_ok P hc lf n y _ _ _ (noteK_inv ht e3)
        exact ⟨ex, s1, he, hw1, fun α0 h0 w0 Q hQ α a w R => wp_cond_false (hv α0 h0 w0 α a w R) (hr α0 h0 w0 Q hQ α a w R)⟩
    · rename_i id x
      obtain ⟨ex, s1, he, hw1, hr⟩ := evC_ok P hc lf n x _ _ _ e
      cases ex with
      | normal => exact ⟨_, _, he, hw1, fun α0 h0 w0 Q hQ α a w R => wp_block (hr α0 h0 w0 _ (fun α' a' w' R' => by exact hQ α' a' w' R') α a w R)⟩
      | exit id' =>
        simp only at he
        split at he
        · rename_i hb
          have hb := Nat.eq_of_beq_eq_true hb
          refine ⟨_, _, he, hw1, fun α0 h0 w0 Q hQ α a w R => wp_block (hr α0 h0 w0 _ (fun α' a' w' R' => ?_) α a w R)⟩
          simp only [Ex.toExit, Exit.inBlock]
          rw [if_pos hb]
          exact hQ α' a' w' R'
        · rename_i hb
          refine ⟨_, _, he, hw1, fun α0 h0 w0 Q hQ α a w R => wp_block (hr α0 h0 w0 _ (fun α' a' w' R' => ?_) α a w R)⟩
          simp only [Ex.toExit, Exit.inBlock]
          rw [if_neg (fun h => hb (by rw [h]; exact Nat.beq_refl id))]
          exact hQ α' a' w' R'
      | goto l => exact ⟨_, _, he, hw1, fun α0 h0 w0 Q hQ α a w R => wp_block (hr α0 h0 w0 _ (fun α' a' w' R' => by exact hQ α' a' w' R') α a w R)⟩
      | ret => exact ⟨_, _, he, hw1, fun α0 h0 w0 Q hQ α a w R => wp_block (hr α0 h0 w0 _ (fun α' a' w' R' => by exact hQ α' a' w' R') α a w R)⟩
    · rename_i x
      obtain ⟨ex, s1, he, hw1, hr⟩ := loopK_ok (evC_ok P hc lf n x) lf s K r e
      exact ⟨ex, s1, he, hw1, fun α0 h0 w0 Q hQ α a w R => wp_loop_rounds lf (hr α0 h0 w0 Q hQ α a w R)⟩
    · rename_i id; exact ⟨_, _, e, .refl _, fun α0 h0 w0 Q hQ α a w R => wp_exit (hQ α a w R)⟩
    · rename_i l; exact ⟨_, _, e, .refl _, fun α0 h0 w0 Q hQ α a w R => wp_goto (hQ α a w R)⟩
    · rename_i x
      obtain ⟨ex, s1, he, hw1, hr⟩ := scopeK_ok (fun c => evC_ok P hc lf n c) lf x s K r e
      exact ⟨ex, s1, he, hw1, fun α0 h0 w0 Q hQ α a w R => wp_scopeR (hr α0 h0 w0 Q hQ α a w R)⟩
    · exact ⟨_, _, e, .refl _, fun α0 h0 w0 Q hQ α a w R => wp_ret (hQ α a w R)⟩
    · cases e

end Ev

namespace Ev
open Go

/-! ## Functions -/
theorem loadAt_inv {P : Program} {t : TypeId} {v u : Value} {w : World} (h : (Instr.loadAt t v).run P w = .ok u w) : ∃ a, v = .pointer (some a) ∧ (loadVar t a).run P w = .ok u w := by
  unfold Instr.loadAt Instr.sureAddr at h
  cases v with
  | pointer a =>
    cases a with
    | none => simp at h
    | some a => exact ⟨a, rfl, by simpa using h⟩
  | _ => simp at h

def resOne (tmps : Array Value) : ResultVar → Sem Value
  | .tmp t => Pure.pure (tmps.getD t undef)
  | .cell c t => do loadVar t (← asAddr (tmps.getD c undef))

theorem results_eq (fn : Func) (tmps : Array Value) : results fn tmps = (do
    let vs ← fn.results.mapM (resOne tmps)
    Pure.pure (if h : vs.size = 1 then vs[0] else .tuple vs)) := by
  unfold results
  congr 1

theorem resK_inv {β : Type} {P : Program} {s : St} : ∀ {rs : List ResultVar} {K : List AC → Option β} {r : β}, resK P s rs K = some r →
    ∃ l, K l = some r ∧ ∀ {C : Cfg} {α0 : Nat → Loc} {h0 : Heap} {w0 : World} {α : Nat → Loc} {a : Act} {w : World}, Rel C α0 h0 w0 α s a w →
      ∃ vs, (rs.mapM (resOne a.tmps)).run P w = .ok vs w ∧ ACVs α l vs ∧ ∀ x ∈ l, acWF s.h x
  | [], K, r, e => ⟨[], e, fun R => ⟨[], by simp, .nil, fun _ hx => by cases hx⟩⟩
  | .tmp t :: rs, K, r, e => by
    simp only [resK] at e
    obtain ⟨av, hav, e1⟩ := getK_inv e
    split at e1
    · rename_i x
      obtain ⟨l, e2, hl⟩ := resK_inv e1
      refine ⟨x :: l, e2, fun R => ?_⟩
      obtain ⟨v, h1, h2⟩ := R.slot t _ hav
      obtain ⟨vs, h3, h4, h5⟩ := hl R
      cases h2 with
      | ac h2 =>
        refine ⟨v :: vs, ?_, .cons h2 h4, fun y hy => ?_⟩
        · rw [List.mapM_cons]
          simp only [Sem.run_bind, resOne, Sem.run_pure, Result.andThen_ok, h3]
          simp [h1]
        · rcases List.mem_cons.1 hy with rfl | hy
          · exact R.wf t _ hav
          · exact h5 y hy
    · cases e1
  | .cell c t :: rs, K, r, e => by
    simp only [resK] at e
    obtain ⟨av, hav, e1⟩ := getK_inv e
    split at e1
    · rename_i p
      obtain ⟨x, e2, hx⟩ := loadK_inv e1
      obtain ⟨l, e3, hl⟩ := resK_inv e2
      refine ⟨x :: l, e3, fun {C α0 h0 w0 α a w} R => ?_⟩
      obtain ⟨v, h1, h2⟩ := R.slot c _ hav
      obtain ⟨vs, h3, h4, h5⟩ := hl R
      cases h2 with
      | ac h2 =>
        obtain ⟨k1, k2⟩ := hx R.hwf (R.wf c _ hav)
        obtain ⟨u, k3, k4⟩ := k2 _ _ v h2 R.sat
        obtain ⟨ad, rfl, k5⟩ := loadAt_inv k3
        refine ⟨u :: vs, ?_, .cons k4 h4, fun y hy => ?_⟩
        · rw [List.mapM_cons]
          have hg : a.tmps.getD c undef = .pointer (some ad) := by simp [h1]
          simp only [Sem.run_bind, resOne, hg, asAddr, Sem.run_pure, Result.andThen_ok, k5, h3]
        · rcases List.mem_cons.1 hy with rfl | hy
          · exact k1
          · exact h5 y hy
    · cases e1

theorem results_run {P : Program} {fn : Func} {tmps : Array Value} {w : World} {vs : List Value} {α : Nat → Loc} {l : List AC}
    (h : (fn.results.toList.mapM (resOne tmps)).run P w = .ok vs w) (hl : ACVs α l vs) : ∃ v, (results fn tmps).run P w = .ok v w ∧ AVV α (mkRes l) v := by
  have h1 : (results fn tmps).run P w = .ok (if h : vs.toArray.size = 1 then vs.toArray[0] else .tuple vs.toArray) w := by
    rw [results_eq]
    simp only [Sem.run_bind]
    rw [Array.mapM_eq_mapM_toList]
    simp only [Sem.run_map, h, Result.andThen_ok, Sem.run_pure]
  refine ⟨_, h1, ?_⟩
  cases hl with
  | nil => exact .tup .nil
  | @cons x v l vs hx hl =>
    cases hl with
    | nil => exact .ac hx
    | @cons y u l vs hy hl =>
      have : ¬ (v :: u :: vs).toArray.size = 1 := by simp
      rw [dif_neg this]
      exact .tup (.cons hx (.cons hy hl))

/-! ### what a function hands on -/
theorem clBelow_ok {n : Nat} : ∀ {x : Cl}, clBelow n x = true → ∀ i, refs i x = true → i < n
  | .val _, _, i, hi => by simp [refs] at hi
  | .bad, _, i, hi => by simp [refs] at hi
  | .ptr j _, h, i, hi => by simp [refs] at hi; subst hi; exact Nat.le_of_ble_eq_true h
  | .dptr j _ _ _ _, h, i, hi => by simp [refs] at hi; subst hi; exact Nat.le_of_ble_eq_true h
  | .gs j _ _ _, h, i, hi => by simp [refs] at hi; subst hi; exact Nat.le_of_ble_eq_true h
  | .sl j _ _ _ _ _, h, i, hi => by simp [refs] at hi; subst hi; exact Nat.le_of_ble_eq_true h
  | .fn _ cs, h, i, hi => go h i hi
  | .ifc _ v, h, i, hi => clBelow_ok (x := v) h i hi
where
  go {n : Nat} : ∀ {cs : List Cl}, clBelow.go n cs = true → ∀ i, refs.go i cs = true → i < n
    | [], _, i, hi => by simp [refs.go] at hi
    | x :: l, h, i, hi => by
      simp only [clBelow.go] at h
      simp only [refs.go] at hi
      split at h
      · rename_i hx
        split at hi
        · rename_i h1; exact clBelow_ok hx i h1
        · exact go h i hi
      · cases h

/-- well-formed, and all that is referred to lies below n, where the two heaps are one -/
theorem clWF_below {h h' : Heap} {n : Nat} (he : ∀ (i : Nat), i < n → h'[i]? = h[i]?) (hn : n ≤ h'.length) : ∀ {x : Cl}, clWF h x → (∀ i, refs i x = true → i < n) → clWF h' x
  | .val _, _, _ => trivial
  | .bad, _, _ => trivial
  | .ptr i _, hw, hr => by have := hr i (by simp [refs]); show i < h'.length; omega
  | .dptr i off idx sz fo, hw, hr => by
    obtain ⟨b, hb, hx⟩ := hw
    exact ⟨b, by rw [he i (hr i (by simp [refs]))]; exact hb, hx⟩
  | .gs i sz st len, hw, hr => by
    obtain ⟨b, hb, hx⟩ := hw
    exact ⟨b, by rw [he i (hr i (by simp [refs]))]; exact hb, hx⟩
  | .sl i off sz st len cap, hw, hr => by
    obtain ⟨b, hb, hx⟩ := hw
    exact ⟨b, by rw [he i (hr i (by simp [refs]))]; exact hb, hx⟩
  | .fn f cs, hw, hr => go he hn hw hr
  | .ifc t v, hw, hr => clWF_below he hn (x := v) hw hr
where
  go {h h' : Heap} {n : Nat} (he : ∀ (i : Nat), i < n → h'[i]? = h[i]?) (hn : n ≤ h'.length) : ∀ {cs : List Cl}, clWF.go h cs → (∀ i, refs.go i cs = true → i < n) → clWF.go h' cs
    | [], _, _ => trivial
    | x :: l, hw, hr => ⟨clWF_below he hn hw.1 fun i hi => hr i (by simp [refs.go, hi]), go he hn hw.2 fun i hi => hr i (by simp only [refs.go]; split <;> first | rfl | exact hi)⟩

theorem segsWF_below {h h' : Heap} {n : Nat} (he : ∀ (i : Nat), i < n → h'[i]? = h[i]?) (hn : n ≤ h'.length) : ∀ {l : List Seg}, segsWF h l → allB (segBelow n) l = true → segsWF h' l
  | [], _, _ => trivial
  | .c x :: l, hw, hb => by
    simp only [allB] at hb
    split at hb
    · rename_i hx; exact ⟨clWF_below he hn hw.1 (clBelow_ok hx), segsWF_below he hn hw.2 hb⟩
    · cases hb
  | .ri _ _ _ :: l, hw, hb => by
    simp only [allB] at hb
    split at hb
    · exact segsWF_below he hn (l := l) hw hb
    · cases hb
  | .r _ _ _ :: l, hw, hb => by
    simp only [allB] at hb
    split at hb
    · exact segsWF_below he hn (l := l) hw hb
    · cases hb

theorem avWF_below {h h' : Heap} {n : Nat} (he : ∀ (i : Nat), i < n → h'[i]? = h[i]?) (hn : n ≤ h'.length) {x : AV} (hw : avWF h x) (hb : avBelow n x = true) : avWF h' x := by
  cases x with
  | ac x => exact segsWF_below he hn hw hb
  | top => trivial
  | tup l => exact fun y hy => segsWF_below he hn (hw y hy) (allB_ok hb y hy)

theorem keepMv_mem {n : Nat} {l : List Nat} {i : Nat} : i ∈ keepMv n l ↔ i ∈ l ∧ i < n := by
  induction l with
  | nil => simp [keepMv]
  | cons j l ih =>
    simp only [keepMv]
    split
    · rename_i h
      have h : j < n := Nat.le_of_ble_eq_true h
      rw [List.mem_cons, List.mem_cons, ih]
      constructor
      · rintro (rfl | h')
        · exact ⟨.inl rfl, h⟩
        · exact ⟨.inr h'.1, h'.2⟩
      · rintro ⟨rfl | h', h''⟩
        · exact .inl rfl
        · exact .inr ⟨h', h''⟩
    · rename_i h
      have h : ¬ j < n := fun hlt => h (Nat.ble_eq_true_of_le hlt)
      rw [List.mem_cons, ih]
      constructor
      · rintro ⟨h1, h2⟩; exact ⟨.inr h1, h2⟩
      · rintro ⟨rfl | h1, h2⟩
        · exact absurd h2 h
        · exact ⟨h1, h2⟩

theorem heapBelow_ok {n : Nat} : ∀ {m : Nat} {h : Heap}, heapBelow n m h = true → ∀ (i : Nat) (b : Blk), i < m → h[i]? = some b → allB (segBelow n) b.segs = true
  | 0, h, e, i, b, hi, hb => by omega
  | m + 1, [], e, i, b, hi, hb => by simp at hb
  | m + 1, b0 :: h, e, i, b, hi, hb => by
    simp only [heapBelow] at e
    split at e
    · rename_i h0
      cases i with
      | zero => simp at hb; subst hb; exact h0
      | succ i => exact heapBelow_ok e i b (by omega) (by simpa using hb)
    · cases e

/-- what may be said of a state's end: the blocks from base on are forgotten -/
theorem Stp.cut {α α' : Nat → Loc} {h h' h'' : Heap} {w w' : World} {M N : List Nat} (s : Stp α h w α' h' w' M) (he : ∀ (i : Nat), i < h.length → h''[i]? = h'[i]?) (hl : ∀ (i : Nat) (b : Blk), h''[i]? = some b → h'[i]? = some b)
    (hM : ∀ i, i < h.length → (i ∈ N ↔ i ∈ M)) : Stp α h w α' h'' w' N where
  os := s.os
  tape := s.tape
  output := s.output
  size := s.size
  frame := s.frame
  al := fun i hi hm => s.al i hi fun h => hm ((hM i hi).2 h)
  shape := fun i b hb => by
    obtain ⟨b', h1, h2, h3, h4⟩ := s.shape i b hb
    exact ⟨b', by rw [he i (lt_of_get hb)]; exact h1, h2, h3, fun hm => h4 fun h => hm ((hM i (lt_of_get hb)).2 h)⟩
  newb := fun i b hb => s.newb i b (hl i b hb)
  mv := fun i b hi hb => s.mv i b ((hM i (lt_of_get hb)).1 hi) hb

theorem Sat.cut {α : Nat → Loc} {h h'' : Heap} {w : World} (s : Sat α h w) (hl : ∀ (i : Nat) (b : Blk), h''[i]? = some b → h[i]? = some b) : Sat α h'' w :=
  ⟨fun i b hb => s.blk i b (hl i b hb), fun i j b b' hb hm hr hb' => s.sep i j b b' (hl i b hb) hm hr (hl j b' hb')⟩

theorem retK_inv {β : Type} {C : Cfg} {h0 : Heap} {s : St} {v : AV} {K : KR β} {r : β} (e : retK h0 s v K = some r) :
    ∃ h' wr m l, K v h' wr m l = some r ∧ (l = false → h' = h0 ∧ m = []) ∧
      ((∀ (i : Nat), i < s.wr → i < h0.length → s.h[i]? = h0[i]?) → ∀ i, i < wr → i < h0.length → h'[i]? = h0[i]?) ∧
      ∀ α0 w0 α a w, Rel C α0 h0 w0 α s a w → (heapWF h0 → avWF s.h v → Stp α0 h0 w0 α h' w m ∧ Sat α h' w ∧ avWF h' v ∧ heapWF h') := by
  -- nothing is forgotten
  have whole : ((∀ (i : Nat), i < s.wr → i < h0.length → s.h[i]? = h0[i]?) → ∀ (i : Nat), i < s.wr → i < h0.length → s.h[i]? = h0[i]?) ∧ ∀ α0 w0 α a w, Rel C α0 h0 w0 α s a w → (heapWF h0 → avWF s.h v → Stp α0 h0 w0 α s.h w (keepMv h0.length s.mv) ∧ Sat α s.h w ∧ avWF s.h v ∧ heapWF s.h) :=
    ⟨fun h => h, fun α0 w0 α a w R _ hv => ⟨R.stp.cut (fun _ _ => rfl) (fun _ _ h => h) (fun i hi => by rw [keepMv_mem]; exact ⟨fun h => h.1, fun h => ⟨h, hi⟩⟩), R.sat, hv, R.hwf⟩⟩
  unfold retK at e
  simp only at e
  split at e
  · rename_i hav
    split at e
    · rename_i hle
      have hle := Nat.le_of_ble_eq_true hle
      have same : ∀ α0 w0 α a w, Rel C α0 h0 w0 α s a w → ∀ (i : Nat), i < h0.length → s.h[i]? = h0[i]? := fun α0 w0 α a w R i hi => R.wr i (by omega) hi
      split at e
      · rename_i hmv
        refine ⟨_, _, _, _, e, fun _ => ⟨rfl, rfl⟩, (fun _ _ _ _ => rfl), fun α0 w0 α a w R hw0 hv => ?_⟩
        have hs := same α0 w0 α a w R
        have hl : ∀ (i : Nat) (b : Blk), h0[i]? = some b → s.h[i]? = some b := fun i b hb => by rw [hs i (lt_of_get hb)]; exact hb
        exact ⟨R.stp.cut (fun i hi => (hs i hi).symm) hl (fun i _ => by rw [hmv]), R.sat.cut hl, avWF_below (fun i hi => (hs i hi).symm) (Nat.le_refl _) hv hav, hw0⟩
      · exact ⟨_, _, _, _, e, (fun h => by cases h), whole⟩
    · split at e
      · rename_i hbl
        have ht : ∀ (i : Nat), i < h0.length → (s.h.take h0.length)[i]? = s.h[i]? := fun i hi => by rw [List.getElem?_take, if_pos hi]
        have hl : ∀ (i : Nat) (b : Blk), (s.h.take h0.length)[i]? = some b → s.h[i]? = some b := fun i b hb => by
          rw [List.getElem?_take] at hb
          split at hb
          · exact hb
          · cases hb
        refine ⟨_, _, _, _, e, (fun h => by cases h), fun hwr i hi hl' => by rw [ht i hl']; exact hwr i hi hl', fun α0 w0 α a w R _ hv => ?_⟩
        have hlen : h0.length ≤ s.h.length := R.stp.length
        refine ⟨R.stp.cut ht hl (fun i hi => by rw [keepMv_mem]; exact ⟨fun h => h.1, fun h => ⟨h, hi⟩⟩), R.sat.cut hl, avWF_below (n := h0.length) ht (by simp; omega) hv hav, fun i b hb => ?_⟩
        have hi : i < h0.length := by have := lt_of_get hb; simp at this; omega
        exact segsWF_below (n := h0.length) ht (by simp; omega) (R.hwf i b (hl i b hb)) (heapBelow_ok hbl i b hi (hl i b hb))
      · exact ⟨_, _, _, _, e, (fun h => by cases h), whole⟩
  · exact ⟨_, _, _, _, e, (fun h => by cases h), whole⟩

theorem AVVs.get {α : Nat → Loc} {l : List AV} {vs : List Value} (h : AVVs α l vs) {i : Nat} {x : AV} (hx : l[i]? = some x) : ∃ v, vs[i]? = some v ∧ AVV α x v := by
  induction h generalizing i with
  | nil => simp at hx
  | cons h1 _ ih =>
    cases i with
    | zero => simp at hx; subst hx; exact ⟨_, rfl, h1⟩
    | succ i => obtain ⟨v, g1, g2⟩ := ih (by simpa using hx); exact ⟨v, by simpa using g1, g2⟩

theorem AVVs.length {α : Nat → Loc} {l : List AV} {vs : List Value} (h : AVVs α l vs) : vs.length = l.length := by
  induction h with
  | nil => rfl
  | cons _ _ ih => simp [ih]

end Ev

namespace Ev
open Go

/-- a loop's contract is good -/
def LoopGood (C : Cfg) (L : Code) (S : LS) : Prop := ∀ s e s', S s = some (e, s') → WrS s s' ∧ Comes C s e s' ((Code.loop L).wp C.P)

def TOk (C : Cfg) (T : LT) (i : Nat) (c : Code) : Prop := ∀ j L, (loopsOf c)[j]? = some L → ∀ S, lookup T (i + j) = some S → LoopGood C L S

theorem TOk.seq {C : Cfg} {T : LT} {i : Nat} {a b : Code} {l : List Code} (h : ∀ j L, (loopsOf a ++ loopsOf b)[j]? = some L → ∀ S, lookup T (i + j) = some S → LoopGood C L S) :
    TOk C T i a ∧ TOk C T (i + nLoops a) b := by
  refine ⟨fun j L hj S hS => h j L ?_ S hS, fun j L hj S hS => h (nLoops a + j) L ?_ S (by rw [← hS]; congr 1; omega)⟩
  · have hlt := (List.getElem?_eq_some_iff.1 hj).1
    rw [List.getElem?_append_left hlt]; exact hj
  · unfold nLoops
    rw [List.getElem?_append_right (by omega)]
    rw [← hj]; congr 1; omega

theorem evCM_ok {β : Type} {C : Cfg} (P : ProgOk C.P) {call : Call β} (hc : CallOk C call) {T : LT} (lf : Nat) : ∀ (n i : Nat) (c : Code), TOk C T i c → RunOk C (evCM C call T lf n i c) c
  | 0, i, c, _ => fun s K r e => by simp [evCM] at e
  | n + 1, i, c, hT => by
    intro s K r e
    simp only [evCM] at e
    split at e
    · exact ⟨_, _, e, .refl _, fun α0 h0 w0 Q hQ α a w R => wp_skip (hQ α a w R)⟩
    · exact ⟨_, _, e, .refl _, fun α0 h0 w0 Q hQ α a w R => wp_label (hQ α a w R)⟩
    · rename_i id ops draw
      obtain ⟨s', e1, hw1, hr⟩ := region_ok (id := id) P hc e
      exact ⟨_, _, e1, hw1, fun α0 h0 w0 Q hQ α a w R => hr α0 h0 w0 Q hQ α a w R⟩
    · rename_i x y
      obtain ⟨tx, ty⟩ := TOk.seq (l := []) hT
      obtain ⟨ex, s1, he, hw1, hr⟩ := evCM_ok P hc lf n i x tx _ _ _ e
      cases ex with
      | normal =>
        obtain ⟨e2, s2, h1, hw2, h2⟩ := evCM_ok P hc lf n _ y ty _ _ _ he
        exact ⟨e2, s2, h1, hw1.trans hw2, fun α0 h0 w0 Q hQ α a w R => wp_seq (hr α0 h0 w0 _ (fun α' a' w' R' => h2 α0 h0 w0 Q hQ α' a' w' R') α a w R)⟩
      | exit id => exact ⟨_, _, he, hw1, fun α0 h0 w0 Q hQ α a w R => wp_seq (hr α0 h0 w0 _ (fun α' a' w' R' => by exact hQ α' a' w' R') α a w R)⟩
      | goto l => exact ⟨_, _, he, hw1, fun α0 h0 w0 Q hQ α a w R => wp_seq (hr α0 h0 w0 _ (fun α' a' w' R' => by exact hQ α' a' w' R') α a w R)⟩
      | ret => exact ⟨_, _, he, hw1, fun α0 h0 w0 Q hQ α a w R => wp_seq (hr α0 h0 w0 _ (fun α' a' w' R' => by exact hQ α' a' w' R') α a w R)⟩
    · rename_i c0 x y
      obtain ⟨tx, ty⟩ := TOk.seq (l := []) hT
      obtain ⟨t, ht, e1⟩ := evalC_inv e
      obtain ⟨b, rfl, e2⟩ := boolK_inv e1
      have hv : ∀ (α0 : Nat → Loc) (h0 : Heap) (w0 : World) α a w, Rel C α0 h0 w0 α s a w → a.eval c0 = .bool b := fun α0 h0 w0 α a w R => by
        obtain ⟨h1, _⟩ := ht.okC (R.hyp [c0]) (by simp)
        generalize a.eval c0 = z at h1; cases h1; rename_i h1; cases h1; rfl
      rcases cond_inv e2 with ⟨rfl, e3⟩ | ⟨rfl, e3⟩
      · obtain ⟨ex, s1, he, hw1, hr⟩ := evCM_ok P hc lf n i x tx _ _ _ (noteK_inv ht e3)
        exact ⟨ex, s1, he, hw1, fun α0 h0 w0 Q hQ α a w R => wp_cond_true (hv α0 h0 w0 α a w R) (hr α0 h0 w0 Q hQ α a w R)⟩
      · obtain ⟨ex, s1, he, hw1, hr⟩ := evCM_ok P hc lf n _ y ty _ _ _ (noteK_inv ht e3)
        exact ⟨ex, s1, he, hw1, fun α0 h0 w0 Q hQ α a w R => wp_cond_false (hv α0 h0 w0 α a w R) (hr α0 h0 w0 Q hQ α a w R)⟩
    · rename_i id x
      obtain ⟨ex, s1, he, hw1, hr⟩ := evCM_ok P hc lf n i x hT _ _ _ e
      cases ex with
      | normal => exact ⟨_, _, he, hw1, fun α0 h0 w0 Q hQ α a w R => wp_block (hr α0 h0 w0 _ (fun α' a' w' R' => by exact hQ α' a' w' R') α a w R)⟩
      | exit id' =>
        simp only at he
        split at he
        · rename_i hb
          have hb := Nat.eq_of_beq_eq_true hb
          refine ⟨_, _, he, hw1, fun α0 h0 w0 Q hQ α a w R => wp_block (hr α0 h0 w0 _ (fun α' a' w' R' => ?_) α a w R)⟩
          simp only [Ex.toExit, Exit.inBlock]
          rw [if_pos hb]
          exact hQ α' a' w' R'
        · rename_i hb
          refine ⟨_, _, he, hw1, fun α0 h0 w0 Q hQ α a w R => wp_block (hr α0 h0 w0 _ (fun α' a' w' R' => ?_) α a w R)⟩
          simp only [Ex.toExit, Exit.inBlock]
          rw [if_neg (fun h => hb (by rw [h]; exact Nat.beq_refl id))]
          exact hQ α' a' w' R'
      | goto l => exact ⟨_, _, he, hw1, fun α0 h0 w0 Q hQ α a w R => wp_block (hr α0 h0 w0 _ (fun α' a' w' R' => by exact hQ α' a' w' R') α a w R)⟩
      | ret => exact ⟨_, _, he, hw1, fun α0 h0 w0 Q hQ α a w R => wp_block (hr α0 h0 w0 _ (fun α' a' w' R' => by exact hQ α' a' w' R') α a w R)⟩
    · rename_i x
      split at e
      · rename_i S hS
        rw [Option.bind_eq_some_iff] at e
        obtain ⟨⟨e1, s1⟩, h1, h2⟩ := e
        obtain ⟨hw1, hr⟩ := hT 0 x (by simp [loopsOf]) S (by simpa using hS) s e1 s1 h1
        exact ⟨e1, s1, h2, hw1, hr⟩
      · have tx : TOk C T (i + 1) x := fun j L hj S hS => hT (j + 1) L (by simpa [loopsOf] using hj) S (by rw [← hS]; congr 1; omega)
        obtain ⟨ex, s1, he, hw1, hr⟩ := loopK_ok (evCM_ok P hc lf n (i + 1) x tx) lf s K r e
        exact ⟨ex, s1, he, hw1, fun α0 h0 w0 Q hQ α a w R => wp_loop_rounds lf (hr α0 h0 w0 Q hQ α a w R)⟩
    · rename_i id; exact ⟨_, _, e, .refl _, fun α0 h0 w0 Q hQ α a w R => wp_exit (hQ α a w R)⟩
    · rename_i l; exact ⟨_, _, e, .refl _, fun α0 h0 w0 Q hQ α a w R => wp_goto (hQ α a w R)⟩
    · rename_i x
      obtain ⟨ex, s1, he, hw1, hr⟩ := scopeK_ok (fun c => evC_ok P hc lf n c) lf x s K r e
      exact ⟨ex, s1, he, hw1, fun α0 h0 w0 Q hQ α a w R => wp_scopeR (hr α0 h0 w0 Q hQ α a w R)⟩
    · exact ⟨_, _, e, .refl _, fun α0 h0 w0 Q hQ α a w R => wp_ret (hQ α a w R)⟩
    · cases e

/-! ### what is forgotten behind a round -/
theorem keepF_get {keep : List Nat} : ∀ {fr : Fr} {i t : Nat} {av : AV}, (keepF keep i fr)[t]? = some av → fr[t]? = some av ∨ (av = .top ∧ t < fr.length)
  | [], i, t, av, h => by simp [keepF] at h
  | x :: l, i, 0, av, h => by
    simp only [keepF, List.getElem?_cons_zero, Option.some.injEq] at h
    split at h
    · exact .inl (by simp [h])
    · exact .inr ⟨h.symm, by simp⟩
  | x :: l, i, t + 1, av, h => by
    simp only [keepF, List.getElem?_cons_succ] at h
    rcases keepF_get h with h1 | ⟨h1, h2⟩
    · exact .inl (by simpa using h1)
    · exact .inr ⟨h1, by simp; omega⟩

/-- frames alike but for what is forgotten -/
theorem Rel.forget {C : Cfg} {α0 : Nat → Loc} {h0 : Heap} {w0 : World} {α : Nat → Loc} {s : St} {a : Act} {w : World} (R : Rel C α0 h0 w0 α s a w) {keep : List Nat} {wr : Nat} (hw : wr ≤ s.wr) :
    Rel C α0 h0 w0 α ⟨keepF keep 0 s.fr, s.h, wr, s.mv⟩ a w where
  stp := R.stp
  sat := R.sat
  slot := fun t av ht => by
    rcases keepF_get ht with h1 | ⟨rfl, h2⟩
    · exact R.slot t av h1
    · obtain ⟨v, h3, _⟩ := R.slot t _ (List.getElem?_eq_getElem h2)
      exact ⟨v, h3, .top v⟩
  wf := fun t av ht => by
    rcases keepF_get ht with h1 | ⟨rfl, h2⟩
    · exact R.wf t av h1
    · trivial
  hwf := R.hwf
  gl := R.gl
  wr := fun i hi => R.wr i (Nat.lt_of_lt_of_le hi hw)
  df := R.df

theorem Rel.cut {C : Cfg} {α0 : Nat → Loc} {h0 : Heap} {w0 : World} {α : Nat → Loc} {s : St} {a : Act} {w : World} (R : Rel C α0 h0 w0 α s a w) {n : Nat} (hn : h0.length ≤ n) (hl : n ≤ s.h.length)
    (hg : ∀ g i, lookup C.glob g = some i → i < n) (hf : allB (avBelow n) s.fr = true) (hh : heapBelow n n s.h = true) :
    Rel C α0 h0 w0 α ⟨s.fr, s.h.take n, s.wr, keepMv n s.mv⟩ a w := by
  have ht : ∀ (i : Nat), i < n → (s.h.take n)[i]? = s.h[i]? := fun i hi => by rw [List.getElem?_take, if_pos hi]
  have hlt : ∀ (i : Nat) (b : Blk), (s.h.take n)[i]? = some b → s.h[i]? = some b := fun i b hb => by
    rw [List.getElem?_take] at hb
    split at hb
    · exact hb
    · cases hb
  have hlen : n ≤ (s.h.take n).length := by simp; omega
  exact
    { stp := R.stp.cut (fun i hi => ht i (by omega)) hlt (fun i hi => by rw [keepMv_mem]; exact ⟨fun h => h.1, fun h => ⟨h, by omega⟩⟩)
      sat := R.sat.cut hlt
      slot := R.slot
      wf := fun t av hav => avWF_below (n := n) ht hlen (R.wf t av hav) (allB_ok hf av (List.mem_of_getElem? hav))
      hwf := fun i b hb => by
        have hi : i < n := by have := lt_of_get hb; simp at this; omega
        exact segsWF_below (n := n) ht hlen (R.hwf i b (hlt i b hb)) (heapBelow_ok hh i b hi (hlt i b hb))
      gl := fun g i hi => by
        obtain ⟨b, h1, h2⟩ := R.gl g i hi
        exact ⟨b, by rw [ht i (hg g i hi)]; exact h1, h2⟩
      wr := fun i hi hl' => by
        show (s.h.take n)[i]? = _
        rw [ht i (by omega)]; exact R.wr i hi hl'
      df := R.df }

/-- a round of a loop, and the loop -/
def LStep (C : Cfg) (f k : Nat) (s : St) (e : Ex) (s' : St) : Prop := ∀ L, loopAt C.P f k = some L → WrS s s' ∧ Comes C s e s' (L.wp C.P)
def LRun (C : Cfg) (f k : Nat) (s : St) (e : Ex) (s' : St) : Prop := ∀ L, loopAt C.P f k = some L → WrS s s' ∧ ∃ n, Comes C s e s' (fun Q => Code.rounds C.P L Q n)

theorem LRun.step {C : Cfg} {f k : Nat} {s s1 s' : St} {e : Ex} (h : LStep C f k s .normal s1) (r : LRun C f k s1 e s') : LRun C f k s e s' := fun L hL => by
  obtain ⟨hw1, h1⟩ := h L hL
  obtain ⟨hw2, n, h2⟩ := r L hL
  refine ⟨hw1.trans hw2, n + 1, fun α0 h0 w0 Q hQ α a w R => ?_⟩
  show Code.rounds C.P L Q (n + 1) a w
  rw [rounds_succ]
  exact h1 α0 h0 w0 _ (fun α' a' w' R' => h2 α0 h0 w0 Q hQ α' a' w' R') α a w R

theorem LRun.last {C : Cfg} {f k : Nat} {s s1 : St} {e : Ex} (h : LStep C f k s e s1) (he : ∀ P c Q n a w, Q e.toExit a w → Exit.then (Code.rounds P c Q n) Q e.toExit a w) : LRun C f k s e s1 := fun L hL => by
  obtain ⟨hw1, h1⟩ := h L hL
  refine ⟨hw1, 1, fun α0 h0 w0 Q hQ α a w R => ?_⟩
  show Code.rounds C.P L Q (0 + 1) a w
  rw [rounds_succ]
  exact h1 α0 h0 w0 _ (fun α' a' w' R' => he _ _ _ _ _ _ (hQ α' a' w' R')) α a w R

theorem LRun.exit {C : Cfg} {f k : Nat} {s s1 : St} {id : Nat} (h : LStep C f k s (.exit id) s1) : LRun C f k s (.exit id) s1 := .last h fun _ _ _ _ _ _ h => h
theorem LRun.goto {C : Cfg} {f k : Nat} {s s1 : St} {id : Nat} (h : LStep C f k s (.goto id) s1) : LRun C f k s (.goto id) s1 := .last h fun _ _ _ _ _ _ h => h
theorem LRun.ret {C : Cfg} {f k : Nat} {s s1 : St} (h : LStep C f k s .ret s1) : LRun C f k s .ret s1 := .last h fun _ _ _ _ _ _ h => h

/-- contracts of function f's loop k -/
def LGood (C : Cfg) (f k : Nat) (S : LS) : Prop := ∀ s e s', S s = some (e, s') → LRun C f k s e s'

theorem LGood.at {C : Cfg} {f k : Nat} {S : LS} (h : LGood C f k S) {L : Code} (hL : loopAt C.P f k = some L) : LoopGood C L S := fun s e s' hs => by
  obtain ⟨hw, n, hr⟩ := h s e s' hs L hL
  exact ⟨hw, fun α0 h0 w0 Q hQ α a w R => wp_loop_rounds n (hr α0 h0 w0 Q hQ α a w R)⟩

def LGoods (C : Cfg) (l : List (Nat × LT)) : Prop := ∀ p ∈ l, ∀ q ∈ p.2, LGood C p.1 q.1 q.2

theorem lookup_mem {α : Type} {l : List (Nat × α)} {i : Nat} {x : α} (h : lookup l i = some x) : (i, x) ∈ l := by
  induction l with
  | nil => simp [lookup] at h
  | cons p l ih =>
    obtain ⟨a, b⟩ := p
    simp only [lookup] at h
    split at h
    · rename_i hab
      cases h
      have := Nat.eq_of_beq_eq_true hab
      subst this
      exact List.mem_cons_self
    · exact List.mem_cons_of_mem _ (ih h)

theorem lookupL_mem {α : Type} {l : List (Nat × List α)} {i : Nat} : lookupL l i = [] ∨ (i, lookupL l i) ∈ l := by
  induction l with
  | nil => exact .inl rfl
  | cons p l ih =>
    obtain ⟨a, b⟩ := p
    simp only [lookupL]
    split
    · rename_i hab
      have := Nat.eq_of_beq_eq_true hab
      subst this
      exact .inr List.mem_cons_self
    · rcases ih with h | h
      · exact .inl h
      · exact .inr (List.mem_cons_of_mem _ h)

theorem LGoods.tok {C : Cfg} {l : List (Nat × LT)} (h : LGoods C l) {f : Nat} {i : Nat} {c : Code} (hc : ∀ j L, (loopsOf c)[j]? = some L → loopAt C.P f (i + j) = some L) : TOk C (lookupL l f) i c := by
  intro j L hj S hS
  have hm := lookup_mem hS
  rcases lookupL_mem (l := l) (i := f) with h1 | h1
  · rw [h1] at hm; cases hm
  · exact (h _ h1 _ hm).at (hc j L hj)
end Ev

namespace Ev
open Go

theorem frame0 {α : Nat → Loc} {args : List AV} {vs : List Value} {n : Nat} (h : AVVs α args vs) {t : Nat} {av : AV} (ht : (args ++ List.replicate (n - args.length) undefA)[t]? = some av) :
    ∃ v, (vs.toArray ++ Array.replicate (n - vs.toArray.size) undef)[t]? = some v ∧ AVV α av v := by
  have hl : vs.length = args.length := h.length
  rw [List.getElem?_append] at ht
  rw [Array.getElem?_append]
  simp only [List.size_toArray, List.getElem?_toArray]
  rw [hl]
  split at ht
  · rename_i hlt
    rw [if_pos hlt]
    exact h.get ht
  · rename_i hlt
    rw [if_neg hlt]
    rw [List.getElem?_replicate] at ht
    split at ht
    · rename_i h2
      cases ht
      refine ⟨undef, by rw [Array.getElem?_replicate, if_pos h2], ?_⟩
      exact .tup .nil
    · cases ht

theorem evFn_ok {β : Type} {C : Cfg} (P : ProgOk C.P) {call : Call β} (hc : CallOk C call) {Λ : List (Nat × LT)} (hΛ : LGoods C Λ) {lf n : Nat} {f : FuncId} {args : List AV} {h : Heap} {K : KR β} {r : β} (e : evFn C call Λ lf n f args h K = some r) :
    ∃ v h' wr m l, K v h' wr m l = some r ∧ CallS C f args h v h' wr m l := by
  unfold evFn at e
  obtain ⟨fn, hf, e⟩ := optK_inv e
  obtain ⟨body, hb, e⟩ := optK_inv e
  obtain ⟨ex, s1, he, hw, hr⟩ := evCM_ok P hc lf n 0 body (hΛ.tok fun j L hj => by simp [loopAt, hf, hb, hj]) _ _ _ e
  have hres : (ex = .normal ∨ ex = .ret) ∧ resK C.P s1 fn.results.toList (fun l => retK h s1 (mkRes l) K) = some r := by
    cases ex with
    | normal => exact ⟨.inl rfl, he⟩
    | ret => exact ⟨.inr rfl, he⟩
    | exit id => simp at he
    | goto l => simp at he
  obtain ⟨hex, hres⟩ := hres
  obtain ⟨l, e1, hl⟩ := resK_inv hres
  obtain ⟨h', wr, m, lo, e2, hq, hwr, hR⟩ := retK_inv e1
  refine ⟨_, h', wr, m, lo, e2, ⟨fn, hf, by rw [hb]; rfl⟩, hwr (hw h fun _ _ _ => rfl), hq, ?_⟩
  intro α w vs hvs hwf hhw hg hs
  refine calls_of_wp hf hb (hr α h w _ (fun α' a' w' R' => ?_) α _ w ?_)
  · obtain ⟨us, k1, k2, k3⟩ := hl R'
    obtain ⟨u, k4, k5⟩ := results_run k1 k2
    have hv : avWF s1.h (mkRes l) := by
      unfold mkRes
      split
      · exact k3 _ (by simp)
      · exact fun y hy => k3 y hy
    obtain ⟨g1, g2, g3, g4⟩ := hR α w α' a' w' R' hhw hv
    have : a'.defers = [] ∧ ∃ v, (results fn a'.tmps).run C.P w' = .ok v w' ∧ (∃ u α'', Ending.returned v = .returned u ∧ Stp α h w α'' h' w' m ∧ Sat α'' h' w' ∧ AVV α'' (mkRes l) u ∧ avWF h' (mkRes l) ∧ heapWF h') :=
      ⟨R'.df, u, k4, u, α', rfl, g1, g2, k5, g3, g4⟩
    rcases hex with rfl | rfl <;> exact this
  · exact
      { stp := .refl α h w
        sat := hs
        slot := fun t av ht => frame0 hvs ht
        wf := fun t av ht => by
          rw [List.getElem?_append] at ht
          split at ht
          · exact hwf av (List.mem_of_getElem? ht)
          · rw [List.getElem?_replicate] at ht
            split at ht
            · cases ht; exact fun y hy => by cases hy
            · cases ht
        hwf := hhw
        gl := hg
        wr := fun _ _ _ => rfl
        df := rfl }

/-- a summary is good -/
def Good (C : Cfg) (f : Nat) (S : Summ) : Prop := ∀ args h r, S args h = some r → CallS C f args h r.v r.h r.wr r.mv r.loud

def Goods (C : Cfg) (Φ : List (Nat × Summ)) : Prop := ∀ p ∈ Φ, Good C p.1 p.2

theorem Goods.nil {C : Cfg} : Goods C [] := fun _ h => by cases h

theorem Goods.cons {C : Cfg} {f : Nat} {S : Summ} {Φ : List (Nat × Summ)} (h : Good C f S) (hs : Goods C Φ) : Goods C ((f, S) :: Φ) := fun p hp => by
  rcases List.mem_cons.1 hp with rfl | hp
  · exact h
  · exact hs p hp

/-- what is known is right -/
structure Knows (C : Cfg) (Φ : Known) : Prop where
  fs : Goods C Φ.fs
  ls : LGoods C Φ.ls

theorem Knows.none (C : Cfg) : Knows C ⟨[], []⟩ := ⟨.nil, fun _ h => by cases h⟩
theorem Knows.f {C : Cfg} {Φ : Known} {f : Nat} {S : Summ} (k : Knows C Φ) (h : Good C f S) : Knows C ⟨(f, S) :: Φ.fs, Φ.ls⟩ := ⟨.cons h k.fs, k.ls⟩
theorem Knows.l {C : Cfg} {Φ : Known} {f : Nat} {T : LT} (k : Knows C Φ) (h : ∀ q ∈ T, LGood C f q.1 q.2) : Knows C ⟨Φ.fs, (f, T) :: Φ.ls⟩ := ⟨k.fs, fun p hp => by
  rcases List.mem_cons.1 hp with rfl | hp
  · exact h
  · exact k.ls p hp⟩

theorem evCall_ok {β : Type} {C : Cfg} (P : ProgOk C.P) {Φ : Known} (G : Knows C Φ) (lf : Nat) : ∀ (d : Nat), CallOk C (evCall (β := β) C Φ lf d)
  | 0 => fun f args h K r e => by simp [evCall] at e
  | d + 1 => fun f args h K r e => by
    simp only [evCall] at e
    split at e
    · rename_i S hS
      have hm := lookup_mem hS
      rw [Option.bind_eq_some_iff] at e
      obtain ⟨x, hx, e1⟩ := e
      exact ⟨_, _, _, _, _, e1, G.fs _ hm args h x hx⟩
    · exact evFn_ok P (evCall_ok P G lf d) G.ls e

theorem ev_good {C : Cfg} (P : ProgOk C.P) {Φ : Known} (G : Knows C Φ) (lf : Nat) (f : FuncId) : Good C f (ev C Φ lf f) := by
  intro args h r e
  obtain ⟨v, h', wr, m, l, e1, hs⟩ := evFn_ok P (evCall_ok P G lf 20) G.ls e
  cases e1
  exact hs

theorem loopsOf_inner : ∀ {c L : Code} {k : Nat}, (loopsOf c)[k]? = some L → ∀ j M, (loopsOf L)[j]? = some M → (loopsOf c)[k + 1 + j]? = some M
  | .seq a b, L, k, h, j, M, hj => by
    simp only [loopsOf] at h ⊢
    by_cases hk : k < (loopsOf a).length
    · rw [List.getElem?_append_left hk] at h
      have := loopsOf_inner h j M hj
      have hlt := (List.getElem?_eq_some_iff.1 this).1
      rw [List.getElem?_append_left hlt]; exact this
    · rw [List.getElem?_append_right (by omega)] at h
      have := loopsOf_inner h j M hj
      rw [List.getElem?_append_right (by omega), ← this]; congr 1; omega
  | .cond _ a b, L, k, h, j, M, hj => by
    simp only [loopsOf] at h ⊢
    by_cases hk : k < (loopsOf a).length
    · rw [List.getElem?_append_left hk] at h
      have := loopsOf_inner h j M hj
      have hlt := (List.getElem?_eq_some_iff.1 this).1
      rw [List.getElem?_append_left hlt]; exact this
    · rw [List.getElem?_append_right (by omega)] at h
      have := loopsOf_inner h j M hj
      rw [List.getElem?_append_right (by omega), ← this]; congr 1; omega
  | .block _ b, L, k, h, j, M, hj => by
    simp only [loopsOf] at h ⊢
    exact loopsOf_inner h j M hj
  | .loop b, L, k, h, j, M, hj => by
    simp only [loopsOf] at h ⊢
    cases k with
    | zero =>
      simp at h; subst h
      rw [show 0 + 1 + j = j + 1 by omega]; simpa using hj
    | succ k =>
      have := loopsOf_inner (c := b) (by simpa using h) j M hj
      rw [show k + 1 + 1 + j = (k + 1 + j) + 1 by omega]; simpa using this
  | .skip, L, k, h, _, _, _ => by simp [loopsOf] at h
  | .label _, L, k, h, _, _, _ => by simp [loopsOf] at h
  | .region _ _ _, L, k, h, _, _, _ => by simp [loopsOf] at h
  | .exit _, L, k, h, _, _, _ => by simp [loopsOf] at h
  | .goto _, L, k, h, _, _, _ => by simp [loopsOf] at h
  | .scope _, L, k, h, _, _, _ => by simp [loopsOf] at h
  | .ret, L, k, h, _, _, _ => by simp [loopsOf] at h

theorem evL_step {C : Cfg} (P : ProgOk C.P) {Φ : Known} (G : Knows C Φ) {lf : Nat} {f k : Nat} {keep : List Nat} {s s1 : St} {e : Ex} (h : evL C Φ lf f k keep s = some (e, s1))
    (hg : allB (fun p => Nat.blt p.2 s.h.length) C.glob = true) : LStep C f k s e s1 := by
  intro L hL
  unfold evL at h
  obtain ⟨L', hL', h⟩ := optK_inv h
  have : L' = L := by rw [hL] at hL'; exact (Option.some.inj hL').symm
  subst this
  have hT : TOk C (lookupL Φ.ls f) (k + 1) L' := G.ls.tok fun j M hj => by
    unfold loopAt at hL ⊢
    split at hL
    · split at hL
      · exact loopsOf_inner hL j M hj
      · cases hL
    · cases hL
  obtain ⟨ex, s2, he, hw, hr⟩ := evCM_ok P (evCall_ok P G lf 20) lf 1000 (k + 1) L' hT _ _ _ h
  simp only [Option.some.injEq, Prod.mk.injEq] at he
  obtain ⟨rfl, rfl⟩ := he
  have hm := minN_le s.wr s2.wr
  have hglob : ∀ g i, lookup C.glob g = some i → i < s.h.length := fun g i hi => Nat.le_of_ble_eq_true (allB_ok hg _ (lookup_mem hi))
  unfold cutSt
  simp only
  split
  · exact ⟨fun h0 h i hi hl => hw h0 h i (by simp only at hi; omega) hl, fun α0 h0 w0 Q hQ α a w R => hr α0 h0 w0 Q (fun α' a' w' R' => hQ α' a' w' (R'.forget hm.2)) α a w R⟩
  · split
    · rename_i hfr
      split
      · rename_i hh
        split
        rotate_left
        · exact ⟨fun h0 h i hi hl => hw h0 h i (by simp only at hi; omega) hl, fun α0 h0 w0 Q hQ α a w R => hr α0 h0 w0 Q (fun α' a' w' R' => hQ α' a' w' (R'.forget hm.2)) α a w R⟩
        rename_i hble
        refine ⟨fun h0 h i hi hl => ?_, fun α0 h0 w0 Q hQ α a w R => hr α0 h0 w0 Q (fun α' a' w' R' => hQ α' a' w' ?_) α a w R⟩
        · simp only at hi
          have h1 := hw h0 h i (by omega) hl
          have h2 := h i (by omega) hl
          have h3 : i < s.h.length := by
            rw [List.getElem?_eq_getElem hl] at h2
            exact lt_of_get h2
          show (s2.h.take s.h.length)[i]? = _
          rw [List.getElem?_take, if_pos h3, h1]
        · have R1 := R'.forget (keep := keep) hm.2
          exact R1.cut R.stp.length (Nat.le_of_ble_eq_true hble) hglob hfr hh
      · exact ⟨fun h0 h i hi hl => hw h0 h i (by simp only at hi; omega) hl, fun α0 h0 w0 Q hQ α a w R => hr α0 h0 w0 Q (fun α' a' w' R' => hQ α' a' w' (R'.forget hm.2)) α a w R⟩
    · exact ⟨fun h0 h i hi hl => hw h0 h i (by simp only at hi; omega) hl, fun α0 h0 w0 Q hQ α a w R => hr α0 h0 w0 Q (fun α' a' w' R' => hQ α' a' w' (R'.forget hm.2)) α a w R⟩
end Ev

namespace Ev
open Go

def vEq : Value → Value → Bool
  | .bool a, .bool b => match a, b with | true, true => true | false, false => true | _, _ => false
  | .int k a, .int k' b => if k = k' then (if a = b then true else false) else false
  | .string ⟨⟨a⟩⟩, .string ⟨⟨b⟩⟩ => match a, b with | [], [] => true | _, _ => false
  | .pointer none, .pointer none => true
  | .slice none a b, .slice none c d => match a, b, c, d with | 0, 0, 0, 0 => true | _, _, _, _ => false
  | .nilFunc, .nilFunc => true
  | .nilIface, .nilIface => true
  | _, _ => false

theorem vEq_ok {u v : Value} (h : vEq u v = true) : u = v ∧ u.oneCell' = true := by
  unfold vEq at h
  split at h
  · split at h
    · exact ⟨rfl, rfl⟩
    · exact ⟨rfl, rfl⟩
    · cases h
  · split at h
    · split at h
      · rename_i h1 h2; subst h1; subst h2; exact ⟨rfl, rfl⟩
      · cases h
    · cases h
  · split at h
    · exact ⟨rfl, rfl⟩
    · cases h
  · exact ⟨rfl, rfl⟩
  · split at h
    · exact ⟨rfl, rfl⟩
    · cases h
  · exact ⟨rfl, rfl⟩
  · exact ⟨rfl, rfl⟩
  · cases h

def riB (k : IntKind) (f : Nat → Int) : Nat → Nat → List Value → Option (List Value)
  | 0, _, l => some l
  | n + 1, i, .int k' x :: l => if k = k' then (if f i = x then riB k f n (i + 1) l else none) else none
  | _, _, _ => none

theorem riB_ok {k : IntKind} {f : Nat → Int} : ∀ {n i : Nat} {l r : List Value}, riB k f n i l = some r → l = (List.range' i n).map (fun j => Value.int k (f j)) ++ r
  | 0, i, l, r, h => by cases h; simp
  | n + 1, i, .int k' x :: l, r, h => by
    simp only [riB] at h
    split at h
    · split at h
      · rename_i h1 h2
        have := riB_ok h
        subst h1; subst h2
        rw [this]
        simp [List.range'_succ]
      · cases h
    · cases h
  | n + 1, i, [], r, h => by simp [riB] at h
  | n + 1, i, .bool _ :: _, r, h => by simp [riB] at h
  | n + 1, i, .float _ _ :: _, r, h => by simp [riB] at h
  | n + 1, i, .complex _ _ _ :: _, r, h => by simp [riB] at h
  | n + 1, i, .string _ :: _, r, h => by simp [riB] at h
  | n + 1, i, .pointer _ :: _, r, h => by simp [riB] at h
  | n + 1, i, .slice _ _ _ :: _, r, h => by simp [riB] at h
  | n + 1, i, .map _ :: _, r, h => by simp [riB] at h
  | n + 1, i, .chan _ :: _, r, h => by simp [riB] at h
  | n + 1, i, .func _ _ _ :: _, r, h => by simp [riB] at h
  | n + 1, i, .nilFunc :: _, r, h => by simp [riB] at h
  | n + 1, i, .iface _ _ :: _, r, h => by simp [riB] at h
  | n + 1, i, .nilIface :: _, r, h => by simp [riB] at h
  | n + 1, i, .agg _ :: _, r, h => by simp [riB] at h
  | n + 1, i, .tuple _ :: _, r, h => by simp [riB] at h

def segsB : List Seg → List Value → Bool
  | [], [] => true
  | .c (.val u) :: l, v :: vs => if vEq u v then segsB l vs else false
  | .ri n k f :: l, vs => match riB k f n 0 vs with | some r => segsB l r | none => false
  | _, _ => false

theorem segsB_ok {α : Nat → Loc} : ∀ {l : List Seg} {vs : List Value}, segsB l vs = true → SegsV α l vs
  | [], [], _ => .nil
  | [], _ :: _, h => by simp [segsB] at h
  | .c x :: l, [], h => by cases x <;> simp [segsB] at h
  | .c x :: l, v :: vs, h => by
    cases x with
    | val u =>
      simp only [segsB] at h
      split at h
      · rename_i h1
        obtain ⟨rfl, h2⟩ := vEq_ok h1
        exact .c (.val _ h2) (segsB_ok h)
      · cases h
    | _ => simp [segsB] at h
  | .ri n k f :: l, vs, h => by
    simp only [segsB] at h
    split at h
    · rename_i r hr
      have := riB_ok hr
      rw [this, ← List.range_eq_range']
      exact .ri (segsB_ok h)
    · cases h
  | .r _ _ _ :: l, vs, h => by cases vs <;> simp [segsB] at h

def acB : AC → Value → Bool
  | .one (.val u), v => vEq u v
  | .agg l, .agg vs => segsB l vs.toList
  | _, _ => false

theorem acB_ok {α : Nat → Loc} {z : AC} {v : Value} (h : acB z v = true) : ACV α z v := by
  unfold acB at h
  split at h
  · obtain ⟨rfl, h2⟩ := vEq_ok h; exact .one (.val _ h2)
  · rename_i l vs
    have := ACV.agg (segsB_ok (α := α) h)
    simpa using this
  · cases h

def zeroB (P : Program) : Nat → Nat → Bool
  | 0, _ => true
  | n + 1, t => if (match zeroA0 P t with
      | some z => (match P.types[t]? with
        | some i => (match i.zero with | some v => acB z v | none => false)
        | none => false)
      | none => true) then zeroB P n (t + 1) else false

theorem ite_tt {a b : Bool} (h : (if a = true then b else false) = true) : a = true ∧ b = true := by
  cases a with
  | true => exact ⟨rfl, h⟩
  | false => cases h

theorem zeroB_ok {P : Program} : ∀ {n t : Nat}, zeroB P n t = true → ∀ u, t ≤ u → u < t + n → ∀ z, zeroA0 P u = some z → ∃ i v, P.types[u]? = some i ∧ i.zero = some v ∧ acB z v = true
  | 0, t, _, u, h1, h2, _, _ => by omega
  | n + 1, t, h, u, h1, h2, z, hz => by
    simp only [zeroB] at h
    obtain ⟨h0, h⟩ := ite_tt h
    by_cases hu : u = t
    · subst hu
      rw [hz] at h0
      cases hi : P.types[u]? with
      | none => simp [hi] at h0
      | some i =>
        cases hv : i.zero with
        | none => simp [hi, hv] at h0
        | some v => simp only [hi, hv] at h0; exact ⟨i, v, rfl, hv, h0⟩
    · exact zeroB_ok h u (by omega) (by omega) z hz

theorem zeroOk_of {P : Program} (n : Nat) (hn : Nat.ble P.types.size n = true) (h : zeroB P n 0 = true) : ZeroOk P := by
  intro t z hz
  unfold zeroA at hz
  split at hz
  · rename_i hlt
    have hlt : t < P.types.size := Nat.le_of_ble_eq_true hlt
    have h9 : P.types.size ≤ n := Nat.le_of_ble_eq_true hn
    obtain ⟨i, v, h1, h2, h3⟩ := zeroB_ok h t (Nat.zero_le _) (by rw [Nat.zero_add]; exact Nat.lt_of_lt_of_le hlt h9) z hz
    refine ⟨i, v, ?_, h2, fun α => acB_ok h3⟩
    show Tables.info? P.toTables t = _
    unfold Tables.info?
    rw [if_pos hlt]
    exact h1
  · cases hz

theorem names_of {P : Program} (h : (P.funcs.toList.all fun fn => fn.body.isNone || !(fn.name == "runtime.NumGoroutine")) = true) :
    ∀ (f : Nat) (fn : Func), P.funcs[f]? = some fn → fn.body.isSome = true → (fn.name == "runtime.NumGoroutine") = false := by
  intro f fn hf hb
  rw [List.all_eq_true] at h
  have hm : fn ∈ P.funcs.toList := by
    rw [Array.mem_toList_iff]
    exact Array.mem_of_getElem? hf
  have := h fn hm
  cases hbd : fn.body with
  | none => rw [hbd] at hb; cases hb
  | some c =>
    rw [hbd] at this
    simpa using this

theorem progOk_of {C : Checked} (n : Nat) (hn : Nat.ble C.prog.types.size n = true) (h : zeroB C.prog n 0 = true)
    (h2 : (C.prog.funcs.toList.all fun fn => fn.body.isNone || !(fn.name == "runtime.NumGoroutine")) = true) : ProgOk C.prog :=
  ⟨zeroOk_of n hn h, names_of h2, C.mixed⟩
end Ev

namespace Ev
open Go

theorem Stp.swap (α α' : Nat → Loc) (w : World) : Stp α [] w α' [] w [] :=
  ⟨rfl, rfl, rfl, Nat.le_refl _, fun _ _ _ => rfl, (fun i hi => by cases hi), (fun i b hb => by simp at hb), (fun i b hb => by simp at hb), (fun i b hi => by cases hi)⟩

theorem BlkOk.kept {α : Nat → Loc} {w w' : World} {i : Nat} {b : Blk} (h : BlkOk α w i b) (hk : ∀ k, k < w.heap.size → w'.heap[k]? = w.heap[k]?) : BlkOk α w' i b where
  ex := fun hr => by
    obtain ⟨c, t, fz, vs, h1, h2⟩ := h.ex hr
    exact ⟨c, t, fz, vs, by rw [hk _ (World.size_lt_of_heap h1)]; exact h1, h2⟩
  nl := h.nl

theorem Sat.kept {α : Nat → Loc} {h : Heap} {w w' : World} (s : Sat α h w) (hk : ∀ k, k < w.heap.size → w'.heap[k]? = w.heap[k]?) : Sat α h w' :=
  ⟨fun i b hb => (s.blk i b hb).kept hk, s.sep⟩

/-- a call that takes no reference and gives none: it does so beside any heap -/
theorem pure_lift {C : Cfg} {f : Nat} {args : List AV} {v : AV} {wr : Nat} {l : Bool} (hb : allB (avBelow 0) args = true) (hs : CallS ⟨C.P, []⟩ f args [] v [] wr [] l) (h : Heap) :
    CallS C f args h v h far [] false where
  callable := hs.callable
  wr := fun _ _ _ => rfl
  quiet := fun _ => ⟨rfl, rfl⟩
  run := fun α w vs hvs hwf hhw hg hsat => by
    have hwf0 : avsWF [] args := fun x hx => avWF_below (h := h) (h' := []) (n := 0) (fun i hi => by omega) (Nat.le_refl _) (hwf x hx) (allB_ok hb x hx)
    refine (hs.run α w vs hvs hwf0 (fun i b hb => by simp at hb) (fun g i hi => by cases hi) ⟨fun i b hb => by simp at hb, fun i j b b' hb => by simp at hb⟩).mono ?_
    rintro e w' ⟨u, α', rfl, h1, h2, h3, h4, h5⟩
    have hk : ∀ k, k < w.heap.size → w'.heap[k]? = w.heap[k]? := fun k hk => h1.frame k hk fun i b hb => by simp at hb
    have h6 := psAV_ok (Stp.swap α' α w') h4 h3
    rw [psAV_nil] at h6
    have hv : avWF h v := by
      have h0 : ∀ i : Nat, i < 0 → h[i]? = ([] : Heap)[i]? := fun i hi => by omega
      cases v with
      | top => trivial
      | ac x => exact segsWF_nil h4
      | tup l => exact fun y hy => segsWF_nil (h4 y hy)
    exact ⟨u, α, rfl, ⟨h1.os, h1.tape, h1.output, h1.size, fun k hk' _ => hk k hk', fun _ _ _ => rfl, fun i b hb => ⟨b, hb, rfl, rfl, fun _ => .refl _⟩, fun i b hb hm hr => .inr ⟨i, b, hb, hm, hr, rfl⟩, fun i b hi => by cases hi⟩,
      hsat.kept hk, h6, hv, hhw⟩
where
  clWF_nil {h : Heap} : ∀ {x : Cl}, clWF [] x → clWF h x
    | .val _, _ => trivial
    | .bad, _ => trivial
    | .ptr i _, hw => by exact absurd hw (Nat.not_lt_zero i)
    | .dptr i _ _ _ _, hw => by obtain ⟨b, hb, _⟩ := hw; simp at hb
    | .gs i _ _ _, hw => by obtain ⟨b, hb, _⟩ := hw; simp at hb
    | .sl i _ _ _ _ _, hw => by obtain ⟨b, hb, _⟩ := hw; simp at hb
    | .fn _ cs, hw => clsWF_nil (cs := cs) hw
    | .ifc _ x, hw => clWF_nil (x := x) hw
  clsWF_nil {h : Heap} : ∀ {cs : List Cl}, clWF.go [] cs → clWF.go h cs
    | [], _ => trivial
    | _ :: _, hw => ⟨clWF_nil hw.1, clsWF_nil hw.2⟩
  segsWF_nil {h : Heap} : ∀ {l : List Seg}, segsWF [] l → segsWF h l
    | [], _ => trivial
    | .c _ :: l, hw => ⟨clWF_nil hw.1, segsWF_nil hw.2⟩
    | .ri _ _ _ :: l, hw => segsWF_nil (l := l) hw
    | .r _ _ _ :: l, hw => segsWF_nil (l := l) hw

/-- a summary of a function that takes no reference, gives none and leaves the heap as it is -/
def pureS (F : List AV → Option AV) : Summ := fun args h => match F args with
  | some v => some ⟨v, h, far, [], false⟩
  | none => none

theorem good_pure {C : Cfg} {f : Nat} {F : List AV → Option AV} (hF : ∀ args v, F args = some v → allB (avBelow 0) args = true ∧ ∃ wr l, CallS ⟨C.P, []⟩ f args [] v [] wr [] l) : Good C f (pureS F) := by
  intro args h r e
  unfold pureS at e
  split at e
  · rename_i v hv
    cases e
    obtain ⟨h1, wr, l, h2⟩ := hF args v hv
    exact pure_lift h1 h2 h
  · cases e

theorem pure_ev {P : Program} (hP : ProgOk P) {Φ : Known} (G : Knows ⟨P, []⟩ Φ) {lf : Nat} {f : Nat} {args : List AV} {v : AV} {wr : Nat} {l : Bool} (e : ev ⟨P, []⟩ Φ lf f args [] = some ⟨v, [], wr, [], l⟩) :
    ∃ wr l, CallS ⟨P, []⟩ f args [] v [] wr [] l := ⟨_, _, ev_good (C := ⟨P, []⟩) hP G lf f args [] _ e⟩
end Ev

namespace Ev
open Go

/-- a frame of which only some slots are known -/
def mkF (l : List (Nat × AV)) : Nat → Nat → Fr
  | 0, _ => []
  | n + 1, i => (match lookup l i with | some x => x | none => .top) :: mkF l n (i + 1)

def pull : List Nat → Fr → Option (List (Nat × AV))
  | [], _ => some []
  | k :: ks, fr => getK fr k none fun x => match pull ks fr with
    | some l => some ((k, x) :: l)
    | none => none

theorem pull_lookup : ∀ {keep : List Nat} {fr : Fr} {l : List (Nat × AV)}, pull keep fr = some l → ∀ t, lookup l t = if keepF.anyN t keep then fr[t]? else none
  | [], fr, l, h, t => by cases h; rfl
  | k :: ks, fr, l, h, t => by
    simp only [pull] at h
    obtain ⟨x, hx, h⟩ := getK_inv h
    split at h
    · rename_i l' hl'
      cases h
      have ih := pull_lookup hl' t
      simp only [lookup, keepF.anyN]
      cases hb : Nat.beq k t with
      | true =>
        have := Nat.eq_of_beq_eq_true hb
        subst this
        simp [hx]
      | false =>
        have : Nat.beq t k = false := by
          cases hb2 : Nat.beq t k with
          | false => rfl
          | true => have := Nat.eq_of_beq_eq_true hb2; subst this; rw [Nat.beq_refl] at hb; cases hb
        simp only [this, Bool.false_eq_true, if_false]
        exact ih
    · cases h

theorem keepF_mk {keep : List Nat} {l : List (Nat × AV)} : ∀ {fr : Fr} {i : Nat}, (∀ t, t < fr.length → lookup l (i + t) = if keepF.anyN (i + t) keep then fr[t]? else none) → keepF keep i fr = mkF l fr.length i
  | [], i, h => rfl
  | x :: fr, i, h => by
    simp only [keepF, List.length_cons, mkF]
    have h0 := h 0 (by simp)
    simp only [Nat.add_zero, List.getElem?_cons_zero] at h0
    have hr := keepF_mk (keep := keep) (l := l) (fr := fr) (i := i + 1) fun t ht => by
      have := h (t + 1) (by simp; omega)
      rw [show i + 1 + t = i + (t + 1) by omega]
      simpa using this
    rw [hr, h0]
    congr 1
    split <;> rfl

theorem pull_keep {keep : List Nat} {fr : Fr} {l : List (Nat × AV)} (h : pull keep fr = some l) : keepF keep 0 fr = mkF l fr.length 0 :=
  keepF_mk fun t _ => by rw [Nat.zero_add]; exact pull_lookup h t

/-- a loop that is entered with more in its frame than is needed -/
theorem LRun.weak {C : Cfg} {f k : Nat} {s s' : St} {e : Ex} {keep : List Nat} {l : List (Nat × AV)} (h : pull keep s.fr = some l) {wr : Nat} (hw : wr ≤ s.wr) (r : LRun C f k ⟨mkF l s.fr.length 0, s.h, wr, s.mv⟩ e s') : LRun C f k s e s' := fun L hL => by
  obtain ⟨hw1, n, h1⟩ := r L hL
  refine ⟨fun h0 hh i hi hl => hw1 h0 (fun j hj hl' => hh j (Nat.lt_of_lt_of_le hj hw) hl') i hi hl, n, fun α0 h0 w0 Q hQ α a w R => h1 α0 h0 w0 Q hQ α a w ?_⟩
  rw [← pull_keep h]
  exact R.forget hw
end Ev

namespace Ev
open Go Go.ChangeShapes Go.WideShapes Go.ChangeAt Go.RowKit

/-- a call beside no known block: the world has at most new blocks -/
theorem Stp.below {α α' : Nat → Loc} {w w' : World} {h' : Heap} {M : List Nat} (s : Stp α [] w α' h' w' M) : Below w.heap.size w w' :=
  ⟨s.os, s.tape, s.output, s.size, fun k hk => s.frame k hk fun i b hb => by simp at hb⟩

/-- the row's step where the world has at most new blocks -/
theorem post_of_below {H : Type} {enc : TypeId × Value → H} {P : Program} {f : Func} {s : ChangeSpec} {apart fresh handsOn again : Bool} {W W' : World} {args : Array Value} {v : Value} {ds gs : List (DataW H)} {before pa pv : List MemPlace}
    (hW : DataW.Whole enc P f.params.toList s.vars apart W args.toList ds gs before)
    (hres : ∀ (b : Nat) (sp : Nat → Bool) (hd : Bool), DataW.TrodAll enc P W' b sp hd f.resultTypes.toList (v.resultList f.resultTypes.size) (s.fn H (ds ++ gs)).results [])
    (hargs : ∀ sp : Nat → Bool, (∀ p ∈ before, sp p.block = true) → DataW.TrodAll enc P W' 0 sp true f.params.toList args.toList (s.fn H (ds ++ gs)).args pa)
    (hvars : ∀ sp : Nat → Bool, (∀ p ∈ before, sp p.block = true) → DataW.TrodVars enc P W' sp s.vars (s.fn H (ds ++ gs)).vars pv)
    (hps : before = pa ++ pv) (hb : Below W.heap.size W W')
    (hok : ∀ (j : Nat) (t : TypeId) (r : Value), f.resultTypes[j]? = some t → (v.resultList f.resultTypes.size)[j]? = some r → Value.okWide P W' .any 0 t r) :
    s.post enc P f apart fresh handsOn again W args v W' := by
  have hold : ∀ p ∈ before, (fun b => decide (b < W.heap.size)) p.block = true := fun p hp => by simpa using hW.lt p hp
  refine ⟨ds, gs, before, [], pa, pv, hW, hres _ _ _, hargs _ hold, hvars _ hold, hb.frame _, fun _ => ?_⟩
  have hlt := hW.lt
  obtain ⟨_, _, _, _, _, hz, hn⟩ := hW
  refine ⟨hok, _, _, ([] ++ pa) ++ pv, ⟨[] ++ pa, pv, trodAll_append (hargs _ (fun _ _ => rfl)) (hres _ _ _), hvars _ (fun _ _ => rfl), rfl, ?_, ?_⟩, ?_⟩
  · intro b off hp
    have hp' : MemPlace.cell b off ∈ before := by rw [hps]; simpa using hp
    have h1 := hlt _ hp'
    rw [hb.frozen (p := ⟨b, off, none⟩) h1]
    exact hz b off hp'
  · intro ha
    have := hn ha
    rw [hps] at this
    simpa using this
  · intro p hp _
    rw [hps]
    simpa using hp

/-- of a good evaluation: the call -/
theorem calls_of_pure {P : Program} {f : Nat} {args : List AV} {x : Value} {h' : Heap} {wr : Nat} {m : List Nat} {l : Bool} (h : CallS ⟨P, []⟩ f args [] (.ac (.one (.val x))) h' wr m l) {vs : List Value}
    (hvs : ∀ α, AVVs α args vs) (hw : avsWF [] args) (w : World) : Calls P f vs.toArray w fun e w' => e = .returned x ∧ Below w.heap.size w w' := by
  refine (h.run (fun _ => ⟨0, 0, 0, false⟩) w vs (hvs _) hw (fun i b hb => by simp at hb) (fun g i hi => by cases hi) ⟨fun i b hb => by simp at hb, fun i j b b' hb => by simp at hb⟩).mono ?_
  rintro e w' ⟨u, α', rfl, h1, h2, h3, h4, h5⟩
  cases h3 with
  | ac h3 => cases h3 with
    | one h3 => cases h3; exact ⟨rfl, h1.below⟩
end Ev
namespace Ev
open Go
theorem u8_of_wf {n : Int} (h : (Lit.int .u8 n).wf = true) : 0 ≤ n ∧ n < 256 := by
  have h1 : (decide (IntKind.min .u8 ≤ n) && decide (n ≤ IntKind.max .u8)) = true := h
  rw [show IntKind.min .u8 = 0 by decide, show IntKind.max .u8 = 255 by decide] at h1
  simp only [Bool.and_eq_true, decide_eq_true_eq] at h1
  omega
end Ev

namespace Ev
open Go Go.ChangeShapes Go.WideShapes Go.ChangeAt Go.RowKit

/-! ## What a listed variable of integers holds -/
inductive Sh where
  | int (k : IntKind)
  | arr (n : Nat) (s : Sh)

def Sh.size : Sh → Nat
  | .int _ => 1
  | .arr n s => n * s.size

def shB (P : Program) : Sh → TypeId → Bool
  | .int k, t => match P.underlying t with
    | some (.int k') => if k = k' then true else false
    | _ => false
  | .arr n s, t => match P.underlying t with
    | some (.array m e) => if Nat.beq m n then (if Nat.beq (P.cellsOf e) s.size then (if Nat.beq (P.cellsOf t) (n * s.size) then shB P s e else false) else false) else false
    | _ => false

mutual
def flat {H : Type} : DataW H → List Value
  | .lit (.int k n) => [.int k n]
  | .agg l => flats l
  | _ => []
def flats {H : Type} : List (DataW H) → List Value
  | [] => []
  | d :: l => flat d ++ flats l
end

theorem flats_eq {H : Type} : ∀ (l : List (DataW H)), flats l = l.flatMap flat
  | [] => rfl
  | d :: l => by simp [flats, flats_eq l]

theorem chunks {γ : Type} {c : Nat} {g : γ → List Value} : ∀ (xs : List γ) (cs : List Value), cs.length = xs.length * c → (∀ i x, xs[i]? = some x → (cs.drop (i * c)).take c = g x) → cs = xs.flatMap g
  | [], cs, hl, _ => by simp at hl; simp [hl]
  | x :: xs, cs, hl, h => by
    have h0 := h 0 x (by simp)
    simp only [Nat.zero_mul, List.drop_zero] at h0
    have ih := chunks (c := c) (g := g) xs (cs.drop c) (by rw [List.length_drop, hl, List.length_cons, Nat.succ_mul, Nat.add_sub_cancel]) fun i y hy => by
      have := h (i + 1) y (by simpa using hy)
      rw [List.drop_drop, show c + i * c = (i + 1) * c by rw [Nat.succ_mul, Nat.add_comm]]; exact this
    rw [List.flatMap_cons, ← ih, ← h0, List.take_append_drop]

theorem flat_of_trod {H : Type} {enc : TypeId × Value → H} {P : Program} {w : World} {base : Nat} {spare : Nat → Bool} {held : Bool} : ∀ {s : Sh} {fuel : Nat} {t : TypeId} {cs : List Value} {x : DataW H × List MemPlace},
    shB P s t = true → DataW.trod enc P w base spare held fuel t cs = some x → cs = flat x.1 ∧ cs.length = s.size
  | .int k, fuel, t, cs, x, hs, h => by
    simp only [shB] at hs
    split at hs
    · rename_i k' hu
      obtain ⟨n, rfl, rfl, _⟩ := DataW.trod_int hu h
      exact ⟨rfl, rfl⟩
    · cases hs
  | .arr n s, fuel, t, cs, x, hs, h => by
    simp only [shB] at hs
    split at hs
    · rename_i m e hu
      obtain ⟨h1, hs1⟩ := ite_tt hs
      obtain ⟨h2, hs2⟩ := ite_tt hs1
      obtain ⟨h3, hs3⟩ := ite_tt hs2
      have h1 := Nat.eq_of_beq_eq_true h1
      have h2 := Nat.eq_of_beq_eq_true h2
      have h3 := Nat.eq_of_beq_eq_true h3
      subst h1
      obtain ⟨xs, f, rfl, rfl, hl, hn, hel⟩ := DataW.trod_array hu h
      rw [h3] at hl
      have : cs = xs.flatMap fun y => flat y.1 := chunks xs cs (c := s.size) (by rw [hl, hn]) fun i y hy => by
        have hi : i < m := by rw [← hn]; exact (List.getElem?_eq_some_iff.1 hy).1
        have := hel i hi
        rw [h2, hy] at this
        exact (flat_of_trod hs3 this).1
      refine ⟨?_, hl⟩
      simp only [flat, flats_eq]
      rw [this, List.flatMap_map]
    · cases hs

/-- the variable's block and cells -/
theorem laid_cells {P : Program} {w : World} {n : String} {d : DataW Unit} {r : List (String × DataW Unit)} {ps : List MemPlace} (h : DataW.LaidVars P w ((n, d) :: r) ps) {g : Nat} {t : TypeId} {s : Sh}
    (hg : P.globalNamed n = some g) (ht : (P.globals[g]?).map (·.type) = some t) (hs : shB P s t = true) :
    (∃ c e fz, w.heap[g]? = some (.cells c e fz) ∧ c.toList = flat d) ∧ ∃ q, DataW.LaidVars P w r q := by
  obtain ⟨g', t', cs, fuel, p, q, e1, e2, e3, e4, e5, _⟩ := h
  obtain rfl := Option.some.inj (hg.symm.trans e1)
  obtain rfl := Option.some.inj (ht.symm.trans e2)
  refine ⟨?_, q, e5⟩
  have h6 := (flat_of_trod hs e4).1
  unfold World.var? at e3
  rw [hg] at e3
  simp only [Option.bind_some] at e3
  split at e3
  · rename_i c e fz hc
    cases e3
    exact ⟨_, _, _, hc, h6⟩
  · cases e3
end Ev
namespace Ev
open Go Go.RowKit
theorem Stp.below' {α α' : Nat → Loc} {h h' : Heap} {w w' : World} {M : List Nat} (s : Stp α h w α' h' w' M) (hm : ∀ (i : Nat) (b : Blk), h[i]? = some b → b.mu = false) : Below w.heap.size w w' :=
  ⟨s.os, s.tape, s.output, s.size, fun k hk => s.frame k hk fun i b hb hmu => by rw [hm i b hb] at hmu; cases hmu⟩

/-- the call, beside blocks that are only read -/
theorem calls_of_ro {C : Cfg} {f : Nat} {args : List AV} {h : Heap} {x : Value} {v : AV} {h' : Heap} {wr : Nat} {m : List Nat} {l : Bool} (hs : CallS C f args h v h' wr m l) (hv : v = .ac (.one (.val x))) {vs : List Value} {α : Nat → Loc} {w : World}
    (hvs : AVVs α args vs) (hw : avsWF h args) (hh : heapWF h) (hg : Glob C α h) (hsat : Sat α h w) (hm : ∀ (i : Nat) (b : Blk), h[i]? = some b → b.mu = false) : Calls C.P f vs.toArray w fun e w' => e = .returned x ∧ Below w.heap.size w w' := by
  refine (hs.run α w vs hvs hw hh hg hsat).mono ?_
  rintro e w' ⟨u, α', rfl, h1, h2, h3, h4, h5⟩
  subst hv
  cases h3 with
  | ac h3 => cases h3 with
    | one h3 => cases h3; exact ⟨rfl, h1.below' hm⟩
end Ev
