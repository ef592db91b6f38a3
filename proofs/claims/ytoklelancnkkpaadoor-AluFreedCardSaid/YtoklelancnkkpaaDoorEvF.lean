/-
  Tables that the program only reads, summaries without references, and the step of a row that returns true.
-/
import Derived.Test.YtoklelancnkkpaaDoorEvE
import Derived.ProofKit
import Derived.OpenShut
import Derived.LaidLaws
import Derived.WideKeyArgs
set_option autoImplicit false
set_option linter.unusedVariables false
set_option linter.unusedSimpArgs false
namespace Ev
open Go

def vEq : Value → Value → Bool
  | .bool a, .bool b => match a, b with | true, true => true | false, false => true | _, _ => false
  | .int k a, .int k' b => if k = k' then (if a = b then true else false) else false
  | .string ⟨⟨a⟩⟩, .string ⟨⟨b⟩⟩ => match a, b with | [], [] => true | _, _ => false
  | .pointer none, .pointer none => true
  | .slice none a b, .slice none c d => match a, b, c, d with | 0, 0, 0, 0 => true | _, _, _, _ => false
  | .nilFunc, .nilFunc => true
  | .nilIface, .nilIface => true
  | _, _ => false

theorem vEq_ok {u v : Value} (h : vEq u v = true) : u = v ∧ u.oneCell' = true := by
  unfold vEq at h
  split at h
  · split at h
    · exact ⟨rfl, rfl⟩
    · exact ⟨rfl, rfl⟩
    · cases h
  · split at h
    · split at h
      · rename_i h1 h2; subst h1; subst h2; exact ⟨rfl, rfl⟩
      · cases h
    · cases h
  · split at h
    · exact ⟨rfl, rfl⟩
    · cases h
  · exact ⟨rfl, rfl⟩
  · split at h
    · exact ⟨rfl, rfl⟩
    · cases h
  · exact ⟨rfl, rfl⟩
  · exact ⟨rfl, rfl⟩
  · cases h

def riB (k : IntKind) (f : Nat → Int) : Nat → Nat → List Value → Option (List Value)
  | 0, _, l => some l
  | n + 1, i, .int k' x :: l => if k = k' then (if f i = x then riB k f n (i + 1) l else none) else none
  | _, _, _ => none

theorem riB_ok {k : IntKind} {f : Nat → Int} : ∀ {n i : Nat} {l r : List Value}, riB k f n i l = some r → l = (List.range' i n).map (fun j => Value.int k (f j)) ++ r
  | 0, i, l, r, h => by cases h; simp
  | n + 1, i, .int k' x :: l, r, h => by
    simp only [riB] at h
    split at h
    · split at h
      · rename_i h1 h2
        have := riB_ok h
        subst h1; subst h2
        rw [this]
        simp [List.range'_succ]
      · cases h
    · cases h
  | n + 1, i, [], r, h => by simp [riB] at h
  | n + 1, i, .bool _ :: _, r, h => by simp [riB] at h
  | n + 1, i, .float _ _ :: _, r, h => by simp [riB] at h
  | n + 1, i, .complex _ _ _ :: _, r, h => by simp [riB] at h
  | n + 1, i, .string _ :: _, r, h => by simp [riB] at h
  | n + 1, i, .pointer _ :: _, r, h => by simp [riB] at h
  | n + 1, i, .slice _ _ _ :: _, r, h => by simp [riB] at h
  | n + 1, i, .map _ :: _, r, h => by simp [riB] at h
  | n + 1, i, .chan _ :: _, r, h => by simp [riB] at h
  | n + 1, i, .func _ _ _ :: _, r, h => by simp [riB] at h
  | n + 1, i, .nilFunc :: _, r, h => by simp [riB] at h
  | n + 1, i, .iface _ _ :: _, r, h => by simp [riB] at h
  | n + 1, i, .nilIface :: _, r, h => by simp [riB] at h
  | n + 1, i, .agg _ :: _, r, h => by simp [riB] at h
  | n + 1, i, .tuple _ :: _, r, h => by simp [riB] at h

def segsB : List Seg → List Value → Bool
  | [], [] => true
  | .c (.val u) :: l, v :: vs => if vEq u v then segsB l vs else false
  | .ri n k f :: l, vs => match riB k f n 0 vs with | some r => segsB l r | none => false
  | _, _ => false

theorem segsB_ok {α : Nat → Loc} : ∀ {l : List Seg} {vs : List Value}, segsB l vs = true → SegsV α l vs
  | [], [], _ => .nil
  | [], _ :: _, h => by simp [segsB] at h
  | .c x :: l, [], h => by cases x <;> simp [segsB] at h
  | .c x :: l, v :: vs, h => by
    cases x with
    | val u =>
      simp only [segsB] at h
      split at h
      · rename_i h1
        obtain ⟨rfl, h2⟩ := vEq_ok h1
        exact .c (.val _ h2) (segsB_ok h)
      · cases h
    | _ => simp [segsB] at h
  | .ri n k f :: l, vs, h => by
    simp only [segsB] at h
    split at h
    · rename_i r hr
      have := riB_ok hr
      rw [this, ← List.range_eq_range']
      exact .ri (segsB_ok h)
    · cases h
  | .r _ _ _ :: l, vs, h => by cases vs <;> simp [segsB] at h

def acB : AC → Value → Bool
  | .one (.val u), v => vEq u v
  | .agg l, .agg vs => segsB l vs.toList
  | _, _ => false

theorem acB_ok {α : Nat → Loc} {z : AC} {v : Value} (h : acB z v = true) : ACV α z v := by
  unfold acB at h
  split at h
  · obtain ⟨rfl, h2⟩ := vEq_ok h; exact .one (.val _ h2)
  · rename_i l vs
    have := ACV.agg (segsB_ok (α := α) h)
    simpa using this
  · cases h

def zeroB (P : Program) : Nat → Nat → Bool
  | 0, _ => true
  | n + 1, t => if (match zeroA0 P t with
      | some z => (match P.types[t]? with
        | some i => (match i.zero with | some v => acB z v | none => false)
        | none => false)
      | none => true) then zeroB P n (t + 1) else false

theorem ite_tt {a b : Bool} (h : (if a = true then b else false) = true) : a = true ∧ b = true := by
  cases a with
  | true => exact ⟨rfl, h⟩
  | false => cases h

theorem zeroB_ok {P : Program} : ∀ {n t : Nat}, zeroB P n t = true → ∀ u, t ≤ u → u < t + n → ∀ z, zeroA0 P u = some z → ∃ i v, P.types[u]? = some i ∧ i.zero = some v ∧ acB z v = true
  | 0, t, _, u, h1, h2, _, _ => by omega
  | n + 1, t, h, u, h1, h2, z, hz => by
    simp only [zeroB] at h
    obtain ⟨h0, h⟩ := ite_tt h
    by_cases hu : u = t
    · subst hu
      rw [hz] at h0
      cases hi : P.types[u]? with
      | none => simp [hi] at h0
      | some i =>
        cases hv : i.zero with
        | none => simp [hi, hv] at h0
        | some v => simp only [hi, hv] at h0; exact ⟨i, v, rfl, hv, h0⟩
    · exact zeroB_ok h u (by omega) (by omega) z hz

theorem zeroOk_of {P : Program} (n : Nat) (hn : Nat.ble P.types.size n = true) (h : zeroB P n 0 = true) : ZeroOk P := by
  intro t z hz
  unfold zeroA at hz
  split at hz
  · rename_i hlt
    have hlt : t < P.types.size := Nat.le_of_ble_eq_true hlt
    have h9 : P.types.size ≤ n := Nat.le_of_ble_eq_true hn
    obtain ⟨i, v, h1, h2, h3⟩ := zeroB_ok h t (Nat.zero_le _) (by rw [Nat.zero_add]; exact Nat.lt_of_lt_of_le hlt h9) z hz
    refine ⟨i, v, ?_, h2, fun α => acB_ok h3⟩
    show Tables.info? P.toTables t = _
    unfold Tables.info?
    rw [if_pos hlt]
    exact h1
  · cases hz

theorem names_of {P : Program} (h : (P.funcs.toList.all fun fn => fn.body.isNone || !(fn.name == "runtime.NumGoroutine")) = true) :
    ∀ (f : Nat) (fn : Func), P.funcs[f]? = some fn → fn.body.isSome = true → (fn.name == "runtime.NumGoroutine") = false := by
  intro f fn hf hb
  rw [List.all_eq_true] at h
  have hm : fn ∈ P.funcs.toList := by
    rw [Array.mem_toList_iff]
    exact Array.mem_of_getElem? hf
  have := h fn hm
  cases hbd : fn.body with
  | none => rw [hbd] at hb; cases hb
  | some c =>
    rw [hbd] at this
    simpa using this

theorem progOk_of {C : Checked} (n : Nat) (hn : Nat.ble C.prog.types.size n = true) (h : zeroB C.prog n 0 = true)
    (h2 : (C.prog.funcs.toList.all fun fn => fn.body.isNone || !(fn.name == "runtime.NumGoroutine")) = true) : ProgOk C.prog :=
  ⟨zeroOk_of n hn h, names_of h2, C.mixed⟩

/-- a frame of which only some slots are known -/
def mkF (l : List (Nat × AV)) : Nat → Nat → Fr
  | 0, _ => []
  | n + 1, i => (match lookup l i with | some x => x | none => .top) :: mkF l n (i + 1)

theorem u8_of_wf {n : Int} (h : (Lit.int .u8 n).wf = true) : 0 ≤ n ∧ n < 256 := by
  have h1 : (decide (IntKind.min .u8 ≤ n) && decide (n ≤ IntKind.max .u8)) = true := h
  rw [show IntKind.min .u8 = 0 by decide, show IntKind.max .u8 = 255 by decide] at h1
  simp only [Bool.and_eq_true, decide_eq_true_eq] at h1
  omega
end Ev
namespace Ev
open Go Go.ChangeShapes Go.WideShapes Go.ChangeAt Go.RowKit

/-- the row's step where the world has at most new blocks -/
theorem post_of_below {H : Type} {enc : TypeId × Value → H} {P : Program} {f : Func} {s : ChangeSpec} {apart fresh handsOn again : Bool} {W W' : World} {args : Array Value} {v : Value} {ds gs : List (DataW H)} {before pa pv : List MemPlace}
    (hW : DataW.Whole enc P f.params.toList s.vars apart W args.toList ds gs before)
    (hres : ∀ (b : Nat) (sp : Nat → Bool) (hd : Bool), DataW.TrodAll enc P W' b sp hd f.resultTypes.toList (v.resultList f.resultTypes.size) (s.fn H (ds ++ gs)).results [])
    (hargs : ∀ sp : Nat → Bool, (∀ p ∈ before, sp p.block = true) → DataW.TrodAll enc P W' 0 sp true f.params.toList args.toList (s.fn H (ds ++ gs)).args pa)
    (hvars : ∀ sp : Nat → Bool, (∀ p ∈ before, sp p.block = true) → DataW.TrodVars enc P W' sp s.vars (s.fn H (ds ++ gs)).vars pv)
    (hps : before = pa ++ pv) (hb : Below W.heap.size W W')
    (hok : ∀ (j : Nat) (t : TypeId) (r : Value), f.resultTypes[j]? = some t → (v.resultList f.resultTypes.size)[j]? = some r → Value.okWide P W' .any 0 t r) :
    s.post enc P f apart fresh handsOn again W args v W' := by
  have hold : ∀ p ∈ before, (fun b => decide (b < W.heap.size)) p.block = true := fun p hp => by simpa using hW.lt p hp
  refine ⟨ds, gs, before, [], pa, pv, hW, hres _ _ _, hargs _ hold, hvars _ hold, hb.frame _, fun _ => ?_⟩
  have hlt := hW.lt
  obtain ⟨_, _, _, _, _, hz, hn⟩ := hW
  refine ⟨hok, _, _, ([] ++ pa) ++ pv, ⟨[] ++ pa, pv, trodAll_append (hargs _ (fun _ _ => rfl)) (hres _ _ _), hvars _ (fun _ _ => rfl), rfl, ?_, ?_⟩, ?_⟩
  · intro b off hp
    have hp' : MemPlace.cell b off ∈ before := by rw [hps]; simpa using hp
    have h1 := hlt _ hp'
    rw [hb.frozen (p := ⟨b, off, none⟩) h1]
    exact hz b off hp'
  · intro ha
    have := hn ha
    rw [hps] at this
    simpa using this
  · intro p hp _
    rw [hps]
    simpa using hp

/-! ## What a listed variable of integers holds -/
inductive Sh where
  | int (k : IntKind)
  | arr (n : Nat) (s : Sh)

def Sh.size : Sh → Nat
  | .int _ => 1
  | .arr n s => n * s.size

def shB (P : Program) : Sh → TypeId → Bool
  | .int k, t => match P.underlying t with
    | some (.int k') => if k = k' then true else false
    | _ => false
  | .arr n s, t => match P.underlying t with
    | some (.array m e) => if Nat.beq m n then (if Nat.beq (P.cellsOf e) s.size then (if Nat.beq (P.cellsOf t) (n * s.size) then shB P s e else false) else false) else false
    | _ => false

mutual
def flat {H : Type} : DataW H → List Value
  | .lit (.int k n) => [.int k n]
  | .agg l => flats l
  | _ => []
def flats {H : Type} : List (DataW H) → List Value
  | [] => []
  | d :: l => flat d ++ flats l
end

theorem flats_eq {H : Type} : ∀ (l : List (DataW H)), flats l = l.flatMap flat
  | [] => rfl
  | d :: l => by simp [flats, flats_eq l]

theorem chunks {γ : Type} {c : Nat} {g : γ → List Value} : ∀ (xs : List γ) (cs : List Value), cs.length = xs.length * c → (∀ i x, xs[i]? = some x → (cs.drop (i * c)).take c = g x) → cs = xs.flatMap g
  | [], cs, hl, _ => by simp at hl; simp [hl]
  | x :: xs, cs, hl, h => by
    have h0 := h 0 x (by simp)
    simp only [Nat.zero_mul, List.drop_zero] at h0
    have ih := chunks (c := c) (g := g) xs (cs.drop c) (by rw [List.length_drop, hl, List.length_cons, Nat.succ_mul, Nat.add_sub_cancel]) fun i y hy => by
      have := h (i + 1) y (by simpa using hy)
      rw [List.drop_drop, show c + i * c = (i + 1) * c by rw [Nat.succ_mul, Nat.add_comm]]; exact this
    rw [List.flatMap_cons, ← ih, ← h0, List.take_append_drop]

theorem flat_of_trod {H : Type} {enc : TypeId × Value → H} {P : Program} {w : World} {base : Nat} {spare : Nat → Bool} {held : Bool} : ∀ {s : Sh} {fuel : Nat} {t : TypeId} {cs : List Value} {x : DataW H × List MemPlace},
    shB P s t = true → DataW.trod enc P w base spare held fuel t cs = some x → cs = flat x.1 ∧ cs.length = s.size
  | .int k, fuel, t, cs, x, hs, h => by
    simp only [shB] at hs
    split at hs
    · rename_i k' hu
      obtain ⟨n, rfl, rfl, _⟩ := DataW.trod_int hu h
      exact ⟨rfl, rfl⟩
    · cases hs
  | .arr n s, fuel, t, cs, x, hs, h => by
    simp only [shB] at hs
    split at hs
    · rename_i m e hu
      obtain ⟨h1, hs1⟩ := ite_tt hs
      obtain ⟨h2, hs2⟩ := ite_tt hs1
      obtain ⟨h3, hs3⟩ := ite_tt hs2
      have h1 := Nat.eq_of_beq_eq_true h1
      have h2 := Nat.eq_of_beq_eq_true h2
      have h3 := Nat.eq_of_beq_eq_true h3
      subst h1
      obtain ⟨xs, f, rfl, rfl, hl, hn, hel⟩ := DataW.trod_array hu h
      rw [h3] at hl
      have : cs = xs.flatMap fun y => flat y.1 := chunks xs cs (c := s.size) (by rw [hl, hn]) fun i y hy => by
        have hi : i < m := by rw [← hn]; exact (List.getElem?_eq_some_iff.1 hy).1
        have := hel i hi
        rw [h2, hy] at this
        exact (flat_of_trod hs3 this).1
      refine ⟨?_, hl⟩
      simp only [flat, flats_eq]
      rw [this, List.flatMap_map]
    · cases hs

/-- the variable's block and cells -/
theorem laid_cells {P : Program} {w : World} {n : String} {d : DataW Unit} {r : List (String × DataW Unit)} {ps : List MemPlace} (h : DataW.LaidVars P w ((n, d) :: r) ps) {g : Nat} {t : TypeId} {s : Sh}
    (hg : P.globalNamed n = some g) (ht : (P.globals[g]?).map (·.type) = some t) (hs : shB P s t = true) :
    (∃ c e fz, w.heap[g]? = some (.cells c e fz) ∧ c.toList = flat d) ∧ ∃ q, DataW.LaidVars P w r q := by
  obtain ⟨g', t', cs, fuel, p, q, e1, e2, e3, e4, e5, _⟩ := h
  obtain rfl := Option.some.inj (hg.symm.trans e1)
  obtain rfl := Option.some.inj (ht.symm.trans e2)
  refine ⟨?_, q, e5⟩
  have h6 := (flat_of_trod hs e4).1
  unfold World.var? at e3
  rw [hg] at e3
  simp only [Option.bind_some] at e3
  split at e3
  · rename_i c e fz hc
    cases e3
    exact ⟨_, _, _, hc, h6⟩
  · cases e3

/-- a call beside blocks that are only read: the world has at most new blocks -/
theorem Stp.below {α α' : Nat → Loc} {h h' : Heap} {w w' : World} (s : Stp α h w α' h' w') (hm : ∀ (i : Nat) (b : Blk), h[i]? = some b → b.mu = false) : Below w.heap.size w w' :=
  ⟨s.os, s.tape, s.output, s.size, fun k hk => s.frame k hk fun i b hb hmu => by rw [hm i b hb] at hmu; cases hmu⟩

/-- the blocks of package variables that are only read -/
structure GB where
  g : Nat
  segs : List Seg

def gbHeap (l : List GB) : Heap := l.map fun b => ⟨false, 0, b.segs⟩
def gbGlob (l : List GB) : List Nat := l.map (·.g)
def gbTabs (l : List GB) : List (List Seg) := l.map (·.segs)
abbrev gbCfg (P : Program) (l : List GB) : Cfg := ⟨P, gbGlob l, gbTabs l⟩
def gbLoc (l : List GB) : Nat → Loc := fun i => match l[i]? with | some b => ⟨b.g, 0, 0, true⟩ | none => ⟨0, 0, 0, false⟩

theorem plainB_WF {h : Heap} : ∀ {l : List Seg}, plainB l = true → segsWF h l
  | [], _ => trivial
  | .c (.val _) :: l, e => ⟨trivial, plainB_WF (l := l) e⟩
  | .ri _ _ _ :: l, e => plainB_WF (l := l) e
  | .r _ _ _ :: l, e => plainB_WF (l := l) e
  | .c .bad :: _, e => by cases e
  | .c (.ptr _ _) :: _, e => by cases e
  | .c (.dptr _ _ _ _ _) :: _, e => by cases e
  | .c (.gs _ _ _ _) :: _, e => by cases e
  | .c (.sl _ _ _ _ _ _) :: _, e => by cases e
  | .c (.fn _ _) :: _, e => by cases e
  | .c (.ifc _ _) :: _, e => by cases e

/-- such blocks lie in the world -/
def GbIn (w : World) (l : List GB) : Prop := ∀ b ∈ l, ∃ c t fz, w.heap[b.g]? = some (.cells c t fz) ∧ ∀ α, SegsV α b.segs c.toList

theorem gb_wf {l : List GB} (h : allB (fun b => plainB b.segs) l = true) : heapWF (gbHeap l) := fun i b hb => by
  unfold gbHeap at hb
  rw [List.getElem?_map] at hb
  obtain ⟨x, h1, h2⟩ := Option.map_eq_some_iff.1 hb
  subst h2
  exact plainB_WF (allB_ok h x (List.mem_of_getElem? h1))

theorem gb_ro {l : List GB} : ∀ (i : Nat) (b : Blk), (gbHeap l)[i]? = some b → b.mu = false := fun i b hb => by
  unfold gbHeap at hb
  rw [List.getElem?_map] at hb
  obtain ⟨x, h1, h2⟩ := Option.map_eq_some_iff.1 hb
  subst h2; rfl

theorem gb_sat {l : List GB} {w : World} (h : GbIn w l) : Sat (gbLoc l) (gbHeap l) w := by
  refine ⟨fun i b hb => ?_, fun i j b b' hb hm => ?_⟩
  · have hb0 := hb
    unfold gbHeap at hb
    rw [List.getElem?_map] at hb
    obtain ⟨x, h1, h2⟩ := Option.map_eq_some_iff.1 hb
    subst h2
    obtain ⟨c, t, fz, h3, h4⟩ := h x (List.mem_of_getElem? h1)
    have hl : gbLoc l i = ⟨x.g, 0, 0, true⟩ := by simp [gbLoc, h1]
    refine ⟨fun _ => ⟨c, t, fz, c.toList, by rw [hl]; exact h3, h4 _, fun j v hj => ?_, (fun hm => by cases hm), ?_⟩, fun hr => by rw [hl] at hr; cases hr⟩
    · rw [hl]; simpa using hj
    · rw [hl]; simp
  · rw [gb_ro i b hb] at hm; cases hm

theorem gb_glob {P : Program} {l : List GB} (hp : allB (fun b => plainB b.segs) l = true) : Glob (gbCfg P l) (gbLoc l) (gbHeap l) := fun g i hi => by
  have h1 := posN_get hi
  have h1 : (l.map (·.g))[i]? = some g := h1
  rw [List.getElem?_map] at h1
  obtain ⟨x, h2, h3⟩ := Option.map_eq_some_iff.1 h1
  refine ⟨⟨false, 0, x.segs⟩, by simp [gbHeap, h2], rfl, ?_, ?_, fun l' hl => ?_⟩
  · simp [gbLoc, h2, h3]
  · simp [gbLoc, h2]
  · have hl : (l.map (·.segs))[i]? = some l' := hl
    rw [List.getElem?_map, h2] at hl
    cases hl
    exact ⟨rfl, allB_ok hp x (List.mem_of_getElem? h2)⟩

/-- the call, beside package variables that are only read -/
theorem calls_of {P : Program} {l : List GB} {f : FuncId} {args : List AV} {x : Value} {h' : Heap} {ws : List Nat} {lo : Bool} (hs : CallS (gbCfg P l) f args (gbHeap l) (.ac (.one (.val x))) h' ws lo) {vs : List Value} {w : World}
    (hvs : ∀ α, AVVs α args vs) (hw : avsWF (gbHeap l) args) (hp : allB (fun b => plainB b.segs) l = true) (hin : GbIn w l) : Calls P f vs.toArray w fun e w' => e = .returned x ∧ Below w.heap.size w w' := by
  refine (hs.run (gbLoc l) w vs (hvs _) hw (gb_wf hp) (gb_glob hp) (gb_sat hin)).mono ?_
  rintro e w' ⟨u, α', rfl, h1, h2, h3, h4, h5⟩
  cases h3 with
  | ac h3 => cases h3 with
    | one h3 => cases h3; exact ⟨rfl, h1.below gb_ro⟩

/-- they lie there still -/
theorem GbIn.below {w w' : World} {l : List GB} (h : GbIn w l) (hb : Below w.heap.size w w') : GbIn w' l := fun b hm => by
  obtain ⟨c, t, fz, h1, h2⟩ := h b hm
  exact ⟨c, t, fz, by rw [hb.block _ (World.size_lt_of_heap h1)]; exact h1, h2⟩
end Ev

namespace Ev
open Go

/-! ## Functions that take no reference, give none and leave the heap as it is: beside any heap they do as beside the tables alone -/
def tabH (C : Cfg) : Heap := C.tabs.map fun l => ⟨false, 0, l⟩

def pureS (F : List AV → Option AV) : Summ := fun args h => match F args with
  | some v => some ⟨v, h, [], false⟩
  | none => none

theorem renAVs_id {ρ : Nat → Option Nat} : ∀ {l : List AV}, (∀ i ∈ refsAVs l, ρ i = some i) → renAVs ρ l = l
  | [], _ => rfl
  | x :: l, h => by simp only [renAVs]; rw [renAV_id fun i hi => h i (by simp [refsAVs, hi]), renAVs_id fun i hi => h i (by simp [refsAVs, hi])]

/-- the program's tables are of its blocks -/
structure TabsOk (C : Cfg) : Prop where
  len : C.tabs.length = C.glob.length
  nd : C.glob.Nodup

/-- the one has the other's tables, and more -/
structure Sub (C C' : Cfg) : Prop where
  P : C'.P = C.P
  glob : ∃ l, C'.glob = C.glob ++ l
  tabs : ∃ l, C'.tabs = C.tabs ++ l
  nd : C'.glob.Nodup

theorem Sub.ok {C C' : Cfg} (S : Sub C C') (h : C.tabs.length = C.glob.length) : TabsOk C where
  len := h
  nd := by obtain ⟨l, hl⟩ := S.glob; have := S.nd; rw [hl] at this; exact (List.nodup_append.1 this).1

theorem Sub.gl {C C' : Cfg} (S : Sub C C') {α : Nat → Loc} {h : Heap} (g : Glob C' α h) : Glob C α h := fun x i hi => by
  have h1 := posN_get hi
  obtain ⟨l, hl⟩ := S.glob
  obtain ⟨m, hm⟩ := S.tabs
  have h2 : C'.glob[i]? = some x := by rw [hl, List.getElem?_append_left (lt_of_get h1)]; exact h1
  obtain ⟨b, k1, k2, k3, k4, k5⟩ := g x i (posN_of S.nd h2)
  exact ⟨b, k1, k2, k3, k4, fun t ht => k5 t (by rw [hm, List.getElem?_append_left (lt_of_get ht)]; exact ht)⟩

theorem pure_good {C C' : Cfg} (S : Sub C C') (hlen : C.tabs.length = C.glob.length) {f : Nat} {F : List AV → Option AV} (k : ∀ args v, F args = some v → refsAVs args = [] ∧ CallS C f args (tabH C) v (tabH C) [] false) : Good C' f (pureS F) := by
  have T := S.ok hlen
  intro args h r e
  unfold pureS at e
  split at e
  rotate_left
  · cases e
  rename_i v hv
  cases e
  obtain ⟨hr, cs⟩ := k args v hv
  refine ⟨by rw [S.P]; exact cs.callable, fun _ _ _ => rfl, fun _ => rfl, Nat.le_refl _, fun α w vs hvs hwf hhw hg' hs => ?_⟩
  have hg := S.gl hg'
  rw [S.P]
  -- the tables are there
  have hat : ∀ i l, C.tabs[i]? = some l → h[i]? = some (⟨false, 0, l⟩ : Blk) ∧ plainB l = true := fun i l hi => by
    have hlt : i < C.glob.length := by rw [← T.len]; exact lt_of_get hi
    obtain ⟨b, h1, _, _, _, h5⟩ := hg C.glob[i] i (posN_of T.nd (List.getElem?_eq_getElem hlt))
    obtain ⟨rfl, h6⟩ := h5 l hi
    exact ⟨h1, h6⟩
  have hG : C.glob.length ≤ h.length := by
    rcases Nat.eq_zero_or_pos C.glob.length with e | e
    · omega
    · have hlt : C.glob.length - 1 < C.glob.length := by omega
      obtain ⟨b, h1, _⟩ := hg _ _ (posN_of T.nd (List.getElem?_eq_getElem hlt))
      have := lt_of_get h1; omega
  have I : Ids C.glob.length h (rangeN C.glob.length) := range_ids hG
  have sb := sub_ok I hhw hg hs
  have hsub : highBlks (posN (rangeN C.glob.length)) h (rangeN C.glob.length) = tabH C := by
    apply List.ext_getElem?
    intro i
    rcases Nat.lt_or_ge i C.glob.length with hi | hi
    · obtain ⟨l, hl⟩ : ∃ l, C.tabs[i]? = some l := ⟨_, List.getElem?_eq_getElem (by rw [T.len]; exact hi)⟩
      obtain ⟨h1, h2⟩ := hat i l hl
      rw [sub_at I (I.low i hi) h1, renBlk_plain h2]
      simp [tabH, hl]
    · rw [List.getElem?_eq_none (by rw [highBlks_length, rangeN_eq]; simpa using hi), List.getElem?_eq_none (by simpa [tabH, T.len] using hi)]
  have hlen : (rangeN C.glob.length).length = C.glob.length := by rw [rangeN_eq]; simp
  have hargs : renAVs (posN (rangeN C.glob.length)) args = args := renAVs_id fun i hi => by rw [hr] at hi; cases hi
  have a1 := renAVs_ok sb.loc hvs
  have a2 := renAVs_WF sb.ren hwf
  have a3 := sb.hwf
  have a4 := sb.gl
  have a5 := sb.sat
  rw [hargs] at a1 a2
  rw [hsub] at a2 a3 a4 a5
  refine Calls.mono (cs.run _ w vs a1 a2 a3 a4 a5) ?_
  rintro en w' ⟨u, α', rfl, h1, h2, h3, h4, h5⟩
  have hcl : closedB h (rangeN C.glob.length) (rangeN C.glob.length) = true := by
    have : ∀ l : List Nat, (∀ i ∈ l, i < C.glob.length) → closedB h (rangeN C.glob.length) l = true := by
      intro l
      induction l with
      | nil => intro _; rfl
      | cons i l ih =>
        intro hl
        have hi := hl i (by simp)
        obtain ⟨l', hl'⟩ : ∃ l, C.tabs[i]? = some l := ⟨_, List.getElem?_eq_getElem (by rw [T.len]; exact hi)⟩
        obtain ⟨h1, _⟩ := hat i l' hl'
        rw [closedB, h1]
        simp only [Bool.false_eq_true, if_false]
        exact ih fun j hj => hl j (by simp [hj])
    exact this _ fun i hi => by rw [rangeN_eq] at hi; simpa using hi
  have L := lift_ok (α' := α') (h' := tabH C) (w' := w') (ws := []) I hhw hs hcl (by rw [hsub]; exact h1) h2 h5 (fun k _ _ => by rw [hsub]) (fun k b hk hb => by
    have := lt_of_get hb
    simp only [tabH, List.length_map, T.len] at this
    rw [hlen] at hk; omega)
  have hh : liftH (rangeN C.glob.length) (tabH C) [] h = h := by
    unfold liftH
    rw [putBlks_nil, List.drop_of_length_le (by simp [tabH, T.len, hlen])]
    simp [renBlks]
  rw [hh] at L
  have hv' : renAV (backF (rangeN C.glob.length) h.length) v = v := renAV_id fun i hi => by
    have hi := avWF_lt h4 hi
    simp only [tabH, List.length_map, T.len] at hi
    unfold backF
    have hb : Nat.blt i (rangeN C.glob.length).length = true := by rw [hlen]; exact Nat.ble_eq_true_of_le hi
    simp only [hb, if_true]
    exact I.low i hi
  have q1 := renAV_ok L.loc h3
  have q2 := renAV_WF L.ren h4
  rw [hv'] at q1 q2
  exact ⟨u, _, rfl, L.stp, L.sat, q1, q2, L.hwf⟩

/-- .. seen by evaluation -/
theorem Sub.refl {C : Cfg} (h : C.glob.Nodup) : Sub C C := ⟨rfl, ⟨[], by simp⟩, ⟨[], by simp⟩, h⟩

theorem pure_ev {C : Cfg} (P : ProgOk C.P) {Φ : Known} (G : Knows C Φ) {lf f : Nat} {args : List AV} {v : AV} (h : ev C Φ lf f args (tabH C) = some ⟨v, tabH C, [], false⟩) : CallS C f args (tabH C) v (tabH C) [] false := ev_good P G lf f _ _ _ h
end Ev

namespace Ev
open Go

/-! ## Tables as data -/
def nthI : List Int → Nat → Int
  | [], _ => 0
  | x :: _, 0 => x
  | _ :: l, n + 1 => nthI l n

def rowB (f : List Value) : List Value → Option (List Value) := fun l => go f l
where
  go : List Value → List Value → Option (List Value)
    | [], l => some l
    | u :: us, v :: vs => if vEq u v then go us vs else none
    | _ :: _, [] => none

theorem rowB_ok : ∀ {f l r : List Value}, rowB.go f l = some r → l = f ++ r ∧ ∀ u ∈ f, u.oneCell' = true
  | [], l, r, h => by cases h; exact ⟨rfl, by simp⟩
  | u :: us, [], r, h => by simp [rowB.go] at h
  | u :: us, v :: vs, r, h => by
    simp only [rowB.go] at h
    split at h
    · rename_i he
      obtain ⟨rfl, h1⟩ := vEq_ok he
      obtain ⟨rfl, h3⟩ := rowB_ok h
      exact ⟨rfl, fun w hw => by rcases List.mem_cons.1 hw with rfl | hw; exact h1; exact h3 w hw⟩
    · cases h

def rB (f : Nat → List Value) (sz : Nat) : Nat → Nat → List Value → Option (List Value)
  | 0, _, l => some l
  | n + 1, i, l => if Nat.beq (f i).length sz then (match rowB.go (f i) l with | some r => rB f sz n (i + 1) r | none => none) else none

theorem rB_ok {f : Nat → List Value} {sz : Nat} : ∀ {n i : Nat} {l r : List Value}, rB f sz n i l = some r → l = (List.range' i n).flatMap f ++ r ∧ ∀ j, i ≤ j → j < i + n → (f j).length = sz ∧ ∀ u ∈ f j, u.oneCell' = true
  | 0, i, l, r, h => by cases h; exact ⟨by simp, fun j h1 h2 => by omega⟩
  | n + 1, i, l, r, h => by
    simp only [rB] at h
    split at h
    · rename_i hl
      have hl := Nat.eq_of_beq_eq_true hl
      split at h
      · rename_i r' hr
        obtain ⟨h1, h2⟩ := rowB_ok hr
        obtain ⟨h3, h4⟩ := rB_ok h
        refine ⟨by rw [h1, h3]; simp [List.range'_succ], fun j hj1 hj2 => ?_⟩
        rcases Nat.lt_or_ge i j with hij | hij
        · exact h4 j (by omega) (by omega)
        · have : j = i := by omega
          subst this; exact ⟨hl, h2⟩
      · cases h
    · cases h

def segsT : List Seg → List Value → Bool
  | [], [] => true
  | .c (.val u) :: l, v :: vs => if vEq u v then segsT l vs else false
  | .ri n k f :: l, vs => match riB k f n 0 vs with | some r => segsT l r | none => false
  | .r n sz f :: l, vs => match rB f sz n 0 vs with | some r => segsT l r | none => false
  | _, _ => false

theorem segsT_ok {α : Nat → Loc} : ∀ {l : List Seg} {vs : List Value}, segsT l vs = true → SegsV α l vs
  | [], [], _ => .nil
  | [], _ :: _, h => by simp [segsT] at h
  | .c x :: l, [], h => by cases x <;> simp [segsT] at h
  | .c x :: l, v :: vs, h => by
    cases x with
    | val u =>
      simp only [segsT] at h
      split at h
      · rename_i h1
        obtain ⟨rfl, h2⟩ := vEq_ok h1
        exact .c (.val _ h2) (segsT_ok h)
      · cases h
    | _ => simp [segsT] at h
  | .ri n k f :: l, vs, h => by
    simp only [segsT] at h
    split at h
    · rename_i r hr
      have := riB_ok hr
      rw [this, ← List.range_eq_range']
      exact .ri (segsT_ok h)
    · cases h
  | .r n sz f :: l, vs, h => by
    simp only [segsT] at h
    split at h
    · rename_i r hr
      obtain ⟨h1, h2⟩ := rB_ok hr
      rw [h1, ← List.range_eq_range']
      exact .r (fun j hj => h2 j (Nat.zero_le _) (by omega)) (segsT_ok h)
    · cases h

/-- the letters of a datum, one after the other -/
def litInts : List Value → List Int
  | .int _ n :: l => n :: litInts l
  | _ :: l => litInts l
  | [] => []
/-- every second -/
def evens : List Int → List Int
  | x :: _ :: l => x :: evens l
  | _ => []
def odds : List Int → List Int
  | _ :: y :: l => y :: odds l
  | _ => []

/-- from the row's premise to a known block -/
theorem gb_of {P : Program} {w : World} {n : String} {d : DataW Unit} {r : List (String × DataW Unit)} {ps : List MemPlace} (h : DataW.LaidVars P w ((n, d) :: r) ps) {g : Nat} {t : TypeId} {s : Sh} {segs : List Seg}
    (hg : P.globalNamed n = some g) (ht : (P.globals[g]?).map (·.type) = some t) (hs : shB P s t = true) (hT : segsT segs (flat d) = true) :
    (∃ c e fz, w.heap[g]? = some (.cells c e fz) ∧ ∀ α, SegsV α segs c.toList) ∧ ∃ q, DataW.LaidVars P w r q := by
  obtain ⟨⟨c, e, fz, h1, h2⟩, h3⟩ := laid_cells h hg ht hs
  exact ⟨⟨c, e, fz, h1, fun α => by rw [h2]; exact segsT_ok hT⟩, h3⟩

/-! ## Words and switches -/
abbrev u8 (n : Int) : AV := .ac (.one (.val (.int .u8 n)))
abbrev u16 (n : Int) : AV := .ac (.one (.val (.int .u16 n)))
abbrev i64 (n : Int) : AV := .ac (.one (.val (.int .i64 n)))
abbrev boo (b : Bool) : AV := .ac (.one (.val (.bool b)))
abbrev c8 (n : Int) : Seg := .c (.val (.int .u8 n))
abbrev c16 (n : Int) : Seg := .c (.val (.int .u16 n))
abbrev c64 (n : Int) : Seg := .c (.val (.int .i64 n))
abbrev cb (b : Bool) : Seg := .c (.val (.bool b))

/-- a quiet answer -/
abbrev qt (C : Cfg) (v : AV) : Option SR := some ⟨v, tabH C, [], false⟩

theorem cond_qt {C : Cfg} {b : Bool} {x y : AV} : cond b (qt C x) (qt C y) = qt C (cond b x y) := by cases b <;> rfl

/-- for all integers of a list, in one evaluation -/
theorem allI {p : Int → Bool} {l : List Int} (h : allB p l = true) {x : Int} (hx : x ∈ l) : p x = true := allB_ok h x hx
end Ev

namespace Ev
open Go Go.ChangeShapes Go.WideShapes Go.ChangeAt Go.RowKit

/-! ## Arguments without references -/
mutual
inductive Pl where
  | int (k : IntKind)
  | bool
  | st (l : Pls)
  | arr (n : Nat) (s : Pl)
inductive Pls where
  | nil
  | cons (s : Pl) (l : Pls)
end

mutual
def Pl.size : Pl → Nat
  | .int _ => 1
  | .bool => 1
  | .st l => l.size
  | .arr n s => n * s.size
def Pls.size : Pls → Nat
  | .nil => 0
  | .cons s l => s.size + l.size
end

mutual
/-- has the type this shape? -/
def plB (P : Program) : Pl → TypeId → Bool
  | .int k, t => match P.underlying t with
    | some (.int k') => if k = k' then true else false
    | _ => false
  | .bool, t => match P.underlying t with
    | some .bool => true
    | _ => false
  | .st l, t => match P.underlying t with
    | some (.struct fs) => if Nat.beq (P.cellsOf t) l.size then plsB P l fs.toList 0 else false
    | _ => false
  | .arr n s, t => match P.underlying t with
    | some (.array m e) => if Nat.beq m n then (if Nat.beq (P.cellsOf e) s.size then (if Nat.beq (P.cellsOf t) (n * s.size) then plB P s e else false) else false) else false
    | _ => false
def plsB (P : Program) : Pls → List Field → Nat → Bool
  | .nil, [], _ => true
  | .cons s l, f :: fs, o => if Nat.beq f.offset o then (if Nat.beq (P.cellsOf f.type) s.size then (if plB P s f.type then plsB P l fs (o + s.size) else false) else false) else false
  | _, _, _ => false
end

mutual
/-- the cells have the shape -/
def okC : Pl → List Value → Prop
  | .int k, cs => ∃ n, cs = [.int k n] ∧ (Lit.int k n).wf = true
  | .bool, cs => ∃ b, cs = [.bool b]
  | .st l, cs => okCs l cs
  | .arr n s, cs => ∃ g : Nat → List Value, cs = (List.range n).flatMap g ∧ ∀ i, i < n → okC s (g i)
def okCs : Pls → List Value → Prop
  | .nil, cs => cs = []
  | .cons s l, cs => ∃ a b, cs = a ++ b ∧ okC s a ∧ okCs l b
end

theorem nil_of_all {γ δ : Type} {xs : List (γ × List δ)} (h : ∀ x ∈ xs, x.2 = []) : xs.flatMap (·.2) = [] := by
  induction xs with
  | nil => rfl
  | cons x l ih => rw [List.flatMap_cons, h x (by simp), ih fun y hy => h y (by simp [hy])]; rfl

mutual
theorem pl_trod {H : Type} {enc : TypeId × Value → H} {P : Program} {w : World} {base : Nat} {spare : Nat → Bool} {held : Bool} : ∀ (s : Pl) {fuel : Nat} {t : TypeId} {cs : List Value} {x : DataW H × List MemPlace},
    plB P s t = true → DataW.trod enc P w base spare held fuel t cs = some x → okC s cs ∧ cs.length = s.size ∧ x.2 = []
  | .int k, fuel, t, cs, x, hs, h => by
    simp only [plB] at hs
    split at hs
    · rename_i k' hu
      split at hs
      · rename_i hk
        subst hk
        obtain ⟨n, rfl, rfl, hw⟩ := DataW.trod_int hu h
        exact ⟨⟨n, rfl, hw⟩, rfl, rfl⟩
      · cases hs
    · cases hs
  | .bool, fuel, t, cs, x, hs, h => by
    simp only [plB] at hs
    split at hs
    · rename_i hu
      obtain ⟨b, rfl, rfl⟩ := DataW.trod_bool hu h
      exact ⟨⟨b, rfl⟩, rfl, rfl⟩
    · cases hs
  | .st l, fuel, t, cs, x, hs, h => by
    simp only [plB] at hs
    split at hs
    · rename_i fs hu
      obtain ⟨h1, hs⟩ := ite_tt hs
      have h1 := Nat.eq_of_beq_eq_true h1
      obtain ⟨xs, n, rfl, rfl, hl, hn, hf⟩ := DataW.trod_struct hu h
      have := pls_trod (enc := enc) (w := w) (base := base) (spare := spare) (held := held) (n := n) (cs := cs) l (fs := fs.toList) (xs := xs) (o := 0) hs (by simp [hn]) (fun i f hi => hf i f (by simpa using hi)) (by rw [hl, h1]; omega)
      rw [List.drop_zero] at this
      exact ⟨this.1, by rw [hl, h1]; rfl, nil_of_all this.2⟩
    · cases hs
  | .arr n s, fuel, t, cs, x, hs, h => by
    simp only [plB] at hs
    split at hs
    · rename_i m e hu
      obtain ⟨h1, hs1⟩ := ite_tt hs
      obtain ⟨h2, hs2⟩ := ite_tt hs1
      obtain ⟨h3, hs3⟩ := ite_tt hs2
      have h1 := Nat.eq_of_beq_eq_true h1
      have h2 := Nat.eq_of_beq_eq_true h2
      have h3 := Nat.eq_of_beq_eq_true h3
      subst h1
      obtain ⟨xs, f, rfl, rfl, hl, hn, hel⟩ := DataW.trod_array hu h
      rw [h3] at hl
      have at_ : ∀ i, i < m → ∃ y, xs[i]? = some y ∧ okC s ((cs.drop (i * s.size)).take s.size) ∧ ((cs.drop (i * s.size)).take s.size).length = s.size ∧ y.2 = [] := fun i hi => by
        obtain ⟨y, hy⟩ : ∃ y, xs[i]? = some y := ⟨_, List.getElem?_eq_getElem (by rw [hn]; exact hi)⟩
        have := hel i hi
        rw [h2, hy] at this
        obtain ⟨k1, k2, k3⟩ := pl_trod s hs3 this
        exact ⟨y, hy, k1, k2, k3⟩
      refine ⟨⟨fun i => (cs.drop (i * s.size)).take s.size, ?_, fun i hi => (at_ i hi).choose_spec.2.1⟩, hl, nil_of_all fun y hy => ?_⟩
      · refine chunks (c := s.size) (List.range m) cs (by rw [hl]; simp) fun i y hy => ?_
        have hi : i < m := by have := lt_of_get hy; simpa using this
        rw [List.getElem?_range hi] at hy
        cases hy; rfl
      · obtain ⟨i, hi⟩ := List.getElem?_of_mem hy
        obtain ⟨y', h4, _, _, h5⟩ := at_ i (by rw [← hn]; exact lt_of_get hi)
        rw [hi] at h4; cases h4; exact h5
    · cases hs
theorem pls_trod {H : Type} {enc : TypeId × Value → H} {P : Program} {w : World} {base : Nat} {spare : Nat → Bool} {held : Bool} {n : Nat} {cs : List Value} : ∀ (l : Pls) {fs : List Field} {xs : List (DataW H × List MemPlace)} {o : Nat},
    plsB P l fs o = true → xs.length = fs.length → (∀ (i : Nat) (f : Field), fs[i]? = some f → DataW.trod enc P w base spare held n f.type ((cs.drop f.offset).take (P.cellsOf f.type)) = xs[i]?) → cs.length = o + l.size →
    okCs l (cs.drop o) ∧ ∀ y ∈ xs, y.2 = []
  | .nil, fs, xs, o, hs, hl, hf, hc => by
    cases fs with
    | nil =>
      have : xs = [] := by cases xs with | nil => rfl | cons => simp at hl
      subst this
      refine ⟨?_, by simp⟩
      show cs.drop o = []
      rw [List.drop_of_length_le (by simp only [Pls.size] at hc; omega)]
    | cons f fs => simp [plsB] at hs
  | .cons s l, fs, xs, o, hs, hl, hf, hc => by
    cases fs with
    | nil => simp [plsB] at hs
    | cons f fs =>
      simp only [plsB] at hs
      obtain ⟨h1, hs1⟩ := ite_tt hs
      obtain ⟨h2, hs2⟩ := ite_tt hs1
      obtain ⟨h3, hs3⟩ := ite_tt hs2
      have h1 := Nat.eq_of_beq_eq_true h1
      have h2 := Nat.eq_of_beq_eq_true h2
      cases xs with
      | nil => simp at hl
      | cons x xs =>
        have h0 := hf 0 f rfl
        rw [h1, h2] at h0
        simp only [Pls.size] at hc
        obtain ⟨k1, k2, k3⟩ := pl_trod s h3 (by simpa using h0)
        obtain ⟨k4, k5⟩ := pls_trod (enc := enc) (w := w) (base := base) (spare := spare) (held := held) (n := n) (cs := cs) l (xs := xs) hs3 (by simpa using hl) (fun i f hi => by have := hf (i + 1) f (by simpa using hi); simpa using this) (by omega)
        refine ⟨⟨(cs.drop o).take s.size, cs.drop (o + s.size), ?_, k1, k4⟩, fun y hy => ?_⟩
        · rw [← List.drop_drop, List.take_append_drop]
        · rcases List.mem_cons.1 hy with rfl | hy
          · exact k3
          · exact k5 y hy
end

theorem okWide_agg {P : Program} {w : World} {r : Reach} {base : Nat} {t : TypeId} {v : Value} (ht : isAggB P t = some true) (h : Value.okWide P w r base t v) : ∃ cs, v = .agg cs := by
  unfold isAggB at ht
  simp only [Value.okWide] at h
  split at ht
  · rename_i e; simp only [e] at h; obtain ⟨cs, h1, _⟩ := h; exact ⟨cs, h1⟩
  · rename_i e; simp only [e] at h; obtain ⟨cs, h1, _⟩ := h; exact ⟨cs, h1⟩
  · cases ht
  · cases ht

/-- a struct or an array, opened -/
theorem open_pl {H : Type} {enc : TypeId × Value → H} {P : Program} {w : World} {base : Nat} {spare : Nat → Bool} {held : Bool} {r : Reach} {b0 : Nat} {t : TypeId} {v : Value} {d : DataW H} {p : List MemPlace} {s : Pl}
    (hs : plB P s t = true) (ha : isAggB P t = some true) (hv : Value.okWide P w r b0 t v) (h : DataW.Trod enc P w base spare held t v d p) : ∃ cs : List Value, v = .agg cs.toArray ∧ okC s cs := by
  obtain ⟨cs, rfl⟩ := okWide_agg ha hv
  obtain ⟨fuel, hf⟩ := h
  exact ⟨cs.toList, by simp, (pl_trod s hs hf).1⟩

/-! ## The row's step, of a law that takes what it will and returns true -/
theorem below_trodAll {H : Type} {enc : TypeId × Value → H} {P : Program} (hl : laidOutB P = true) {W W' : World} (hb : Below W.heap.size W W') {sp : Nat → Bool} : ∀ {ts : List TypeId} {vs : List Value} {ds : List (DataW H)} {ps : List MemPlace},
    (∀ t ∈ ts, P.readableRec t = true ∧ t < P.types.size) → DataW.TrodAll enc P W 0 (fun _ => true) true ts vs ds ps → (∀ p ∈ ps, p.block < W.heap.size) → (∀ p ∈ ps, sp p.block = true) → DataW.TrodAll enc P W' 0 sp true ts vs ds ps
  | [], vs, ds, ps, _, h, _, _ => by
    obtain ⟨rfl, rfl, rfl⟩ := trodAll_nil h
    exact trodAll_mk0
  | t :: ts, vs, ds, ps, ht, h, hlt, hsp => by
    obtain ⟨v, vs', d, ds', p, q, rfl, rfl, rfl, h0, h1⟩ := trodAll_cons h
    obtain ⟨k1, k2⟩ := ht t (by simp)
    exact trodAll_cons_mk (Go.WideElems.Trod_stays hl k1 k2 h0 (fun x hx => hb.same (hlt x (by simp [hx]))) (fun x hx => hsp x (by simp [hx])))
      (below_trodAll hl hb (fun u hu => ht u (by simp [hu])) h1 (fun x hx => hlt x (by simp [hx])) (fun x hx => hsp x (by simp [hx])))

theorem trodAll_len {H : Type} {enc : TypeId × Value → H} {P : Program} {W : World} {base : Nat} {sp : Nat → Bool} {held : Bool} : ∀ {ts : List TypeId} {vs : List Value} {ds : List (DataW H)} {ps : List MemPlace}, DataW.TrodAll enc P W base sp held ts vs ds ps → ds.length = ts.length
  | [], vs, ds, ps, h => by obtain ⟨rfl, rfl, rfl⟩ := trodAll_nil h; rfl
  | t :: ts, vs, ds, ps, h => by
    obtain ⟨v, vs', d, ds', p, q, rfl, rfl, rfl, h0, h1⟩ := trodAll_cons h
    simp [trodAll_len h1]

/-- the function returned true and there are at most new blocks -/
theorem law_post {H : Type} {enc : TypeId × Value → H} {P : Program} {f : Func} {s : ChangeSpec} {tb : TypeId} (hl : laidOutB P = true) (hts : f.params.toList.all (fun t => P.readableRec t && decide (t < P.types.size)) = true) (hrt : f.resultTypes = #[tb]) (htb : P.underlying tb = some .bool)
    (hv : s.vars = []) (hs : ∀ ds : List (DataW H), ds.length = f.params.toList.length → s.fn H ds = { results := [.lit (.bool true)], args := ds })
    {W W' : World} {args : Array Value} {ds gs : List (DataW H)} {before : List MemPlace} (hW : DataW.Whole enc P f.params.toList s.vars false W args.toList ds gs before) (hb : Below W.heap.size W W') :
    s.post enc P f false true false false W args (.bool true) W' := by
  have hW' := hW
  have hlt := hW.lt
  obtain ⟨p, q, hA, hV, rfl, hfz, hnd⟩ := hW
  rw [hv] at hV
  obtain ⟨rfl, rfl⟩ := trodVars_none hV
  have e := hs ds (trodAll_len hA)
  have hts' : ∀ t ∈ f.params.toList, P.readableRec t = true ∧ t < P.types.size := fun t ht => by
    have := List.all_eq_true.1 hts t ht
    simp only [Bool.and_eq_true, decide_eq_true_eq] at this
    exact this
  refine post_of_below (pa := p) (pv := []) hW' (fun b sp hd => ?_) (fun sp hsp => ?_) (fun sp _ => ?_) rfl hb (ok_one hrt rfl (okWide_bool_mk htb _))
  · rw [List.append_nil, e, hrt]
    exact trodAll_cons_mk (shut_bool htb _) trodAll_mk0
  · rw [List.append_nil, e]
    exact below_trodAll hl hb hts' hA (fun x hx => hlt x (by simp [hx])) (fun x hx => hsp x (by simp [hx]))
  · rw [List.append_nil, e, hv]; rfl
end Ev
