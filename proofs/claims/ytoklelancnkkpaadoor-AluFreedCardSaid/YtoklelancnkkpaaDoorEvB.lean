/-
  What an abstract state says of a world; loads, stores and allocations of the interpreter are right. No conditions.
-/
import Derived.Test.YtoklelancnkkpaaDoorEvA
import Derived.WalkKit
set_option autoImplicit false
set_option linter.unusedVariables false
set_option linter.unusedSimpArgs false
namespace Ev
open Go

/-! # Ev: what an abstract state says of a world -/

structure Loc where
  b : Nat
  o : Nat
  cap : Nat
  real : Bool

mutual
inductive V (α : Nat → Loc) : Cl → Value → Prop where
  | val (u : Value) : u.oneCell' = true → V α (.val u) u
  | bad (u : Value) : u.oneCell' = true → V α .bad u
  | ptr (i off : Nat) : V α (.ptr i off) (.pointer (some ⟨(α i).b, (α i).o + off, none⟩))
  | dptr (i off idx sz fo : Nat) : V α (.dptr i off idx sz fo) (.pointer (some ⟨(α i).b, (α i).o + (off + idx * sz + fo), none⟩))
  | gsNil (i sz st : Nat) : (α i).real = false → V α (.gs i sz st 0) (.slice none 0 0)
  | gs (i sz st len : Nat) (ad : Addr) : (α i).real = true → st + len ≤ (α i).cap → ad.spot = none →
      (st = (α i).cap ∨ ad = ⟨(α i).b, (α i).o + st * sz, none⟩) → V α (.gs i sz st len) (.slice (some ad) len ((α i).cap - st))
  | sl (i off sz st len cap : Nat) (ad : Addr) : len ≤ cap → ad.spot = none →
      (cap = 0 ∨ ad = ⟨(α i).b, (α i).o + (off + st * sz), none⟩) → V α (.sl i off sz st len cap) (.slice (some ad) len cap)
  | fn (f : FuncId) (caps : List Cl) (vs : List Value) : Vs α caps vs → V α (.fn f caps) (.func (.func f) #[] vs.toArray)
  | ifc (t : TypeId) (x : Cl) (u : Value) : V α x u → V α (.ifc t x) (.iface t u)
inductive Vs (α : Nat → Loc) : List Cl → List Value → Prop where
  | nil : Vs α [] []
  | cons {x : Cl} {v : Value} {l : List Cl} {vs : List Value} : V α x v → Vs α l vs → Vs α (x :: l) (v :: vs)
end

theorem V.one {α : Nat → Loc} {x : Cl} {v : Value} (h : V α x v) : v.oneCell' = true := by
  cases h <;> first | assumption | rfl

inductive SegsV (α : Nat → Loc) : List Seg → List Value → Prop where
  | nil : SegsV α [] []
  | c {x : Cl} {v : Value} {l : List Seg} {vs : List Value} : V α x v → SegsV α l vs → SegsV α (.c x :: l) (v :: vs)
  | ri {n : Nat} {k : IntKind} {f : Nat → Int} {l : List Seg} {vs : List Value} : SegsV α l vs →
      SegsV α (.ri n k f :: l) ((List.range n).map (fun j => Value.int k (f j)) ++ vs)
  | r {n sz : Nat} {f : Nat → List Value} {l : List Seg} {vs : List Value} : (∀ j, j < n → (f j).length = sz ∧ ∀ u ∈ f j, u.oneCell' = true) → SegsV α l vs →
      SegsV α (.r n sz f :: l) ((List.range n).flatMap f ++ vs)

inductive ACV (α : Nat → Loc) : AC → Value → Prop where
  | one {x : Cl} {v : Value} : V α x v → ACV α (.one x) v
  | agg {l : List Seg} {vs : List Value} : SegsV α l vs → ACV α (.agg l) (.agg vs.toArray)

inductive ACVs (α : Nat → Loc) : List AC → List Value → Prop where
  | nil : ACVs α [] []
  | cons {x : AC} {v : Value} {l : List AC} {vs : List Value} : ACV α x v → ACVs α l vs → ACVs α (x :: l) (v :: vs)

inductive AVV (α : Nat → Loc) : AV → Value → Prop where
  | ac {x : AC} {v : Value} : ACV α x v → AVV α (.ac x) v
  | tup {l : List AC} {vs : List Value} : ACVs α l vs → AVV α (.tup l) (.tuple vs.toArray)
  | top (v : Value) : AVV α .top v

inductive AVVs (α : Nat → Loc) : List AV → List Value → Prop where
  | nil : AVVs α [] []
  | cons {x : AV} {v : Value} {l : List AV} {vs : List Value} : AVV α x v → AVVs α l vs → AVVs α (x :: l) (v :: vs)

theorem AVV.undef (α : Nat → Loc) : AVV α undefA undef := .tup .nil

theorem SegsV.one {α : Nat → Loc} {l : List Seg} {vs : List Value} (h : SegsV α l vs) : ∀ u ∈ vs, u.oneCell' = true := by
  induction h with
  | nil => simp
  | c hx _ ih =>
    intro u hu
    rcases List.mem_cons.1 hu with rfl | hu
    · exact hx.one
    · exact ih u hu
  | ri _ ih =>
    intro u hu
    rcases List.mem_append.1 hu with hu | hu
    · obtain ⟨j, _, rfl⟩ := List.mem_map.1 hu; rfl
    · exact ih u hu
  | r hf _ ih =>
    intro u hu
    rcases List.mem_append.1 hu with hu | hu
    · obtain ⟨j, hj, hu⟩ := List.mem_flatMap.1 hu; exact (hf j (by simpa using hj)).2 u hu
    · exact ih u hu

theorem flatMap_length {n sz : Nat} {f : Nat → List Value} (h : ∀ j, j < n → (f j).length = sz) : ((List.range n).flatMap f).length = n * sz := by
  induction n with
  | zero => simp
  | succ n ih =>
    rw [List.range_succ, List.flatMap_append, List.length_append, ih (fun j hj => h j (by omega))]
    simp [h n (by omega), Nat.succ_mul]

theorem flatMap_get {n sz : Nat} {f : Nat → List Value} (h : ∀ j, j < n → (f j).length = sz) (i fo : Nat) (hi : i < n) (hf : fo < sz) :
    ((List.range n).flatMap f)[i * sz + fo]? = (f i)[fo]? := by
  induction n with
  | zero => omega
  | succ n ih =>
    have hl := flatMap_length (n := n) (fun j hj => h j (by omega))
    rw [List.range_succ, List.flatMap_append]
    by_cases hin : i < n
    · rw [List.getElem?_append_left]
      · exact ih (fun j hj => h j (by omega)) hin
      · rw [hl]; have : (i + 1) * sz ≤ n * sz := Nat.mul_le_mul_right _ hin; rw [Nat.succ_mul] at this; omega
    · have : i = n := by omega
      subst this
      rw [List.getElem?_append_right (by rw [hl]; omega), hl]
      simp [show i * sz + fo - i * sz = fo by omega]

theorem SegsV.len {α : Nat → Loc} {l : List Seg} {vs : List Value} (h : SegsV α l vs) : vs.length = totLen l := by
  induction h with
  | nil => rfl
  | c _ _ ih => simp [totLen, Seg.len, ih]; omega
  | ri _ ih => simp [totLen, Seg.len, ih]
  | r hf _ ih => rw [List.length_append, flatMap_length (fun j hj => (hf j hj).1), ih]; rfl

theorem SegsV.append {α : Nat → Loc} {l m : List Seg} {vs us : List Value} (h : SegsV α l vs) (k : SegsV α m us) : SegsV α (l ++ m) (vs ++ us) := by
  induction h with
  | nil => exact k
  | c hx _ ih => exact .c hx ih
  | ri _ ih => rw [List.append_assoc]; exact .ri ih
  | r hf _ ih => rw [List.append_assoc]; exact .r hf ih

/-- one segment against its values -/
theorem SegsV.split {α : Nat → Loc} {s : Seg} {l : List Seg} {vs : List Value} (h : SegsV α (s :: l) vs) :
    ∃ a b, vs = a ++ b ∧ SegsV α [s] a ∧ SegsV α l b ∧ a.length = s.len := by
  cases h with
  | c hx hl => exact ⟨[_], _, rfl, .c hx .nil, hl, rfl⟩
  | ri hl => exact ⟨_, _, rfl, by simpa using SegsV.ri (α := α) .nil, hl, by simp [Seg.len]⟩
  | r hf hl => exact ⟨_, _, rfl, by simpa using SegsV.r (α := α) hf .nil, hl, by rw [flatMap_length (fun j hj => (hf j hj).1)]; rfl⟩

theorem SegsV.cons {α : Nat → Loc} {s : Seg} {l : List Seg} {a b : List Value} (h : SegsV α [s] a) (k : SegsV α l b) : SegsV α (s :: l) (a ++ b) := h.append k

/-! ## what the functions on segments do -/
theorem takeS_ok {α : Nat → Loc} : ∀ {l : List Seg} {n : Nat} {r : List Seg} {vs : List Value}, takeS l n = some r → SegsV α l vs → SegsV α r (vs.take n) ∧ totLen r = n
  | [], n, r, vs, h, hv => by
    simp only [takeS] at h
    split at h
    · rename_i h0; have := Nat.eq_of_beq_eq_true h0; subst this; cases h; exact ⟨by simpa using SegsV.nil, rfl⟩
    · cases h
  | s :: l, n, r, vs, h, hv => by
    simp only [takeS] at h
    split at h
    · rename_i h0; have := Nat.eq_of_beq_eq_true h0; subst this; cases h; exact ⟨by simpa using SegsV.nil, rfl⟩
    · split at h
      · rename_i h1
        have h1 := Nat.le_of_ble_eq_true h1
        split at h
        · rename_i r' hr
          cases h
          obtain ⟨a, b, rfl, ha, hb, hl⟩ := hv.split
          obtain ⟨h2, h3⟩ := takeS_ok hr hb
          refine ⟨?_, by simp only [totLen, h3]; omega⟩
          rw [List.take_append, List.take_of_length_le (by omega), hl]
          exact ha.cons h2
        · cases h
      · cases h

theorem dropS_ok {α : Nat → Loc} : ∀ {l : List Seg} {n : Nat} {r : List Seg} {vs : List Value}, dropS l n = some r → SegsV α l vs → SegsV α r (vs.drop n)
  | [], n, r, vs, h, hv => by
    simp only [dropS] at h
    split at h
    · cases h; cases hv; simpa using SegsV.nil
    · cases h
  | s :: l, n, r, vs, h, hv => by
    simp only [dropS] at h
    split at h
    · rename_i h0; have := Nat.eq_of_beq_eq_true h0; subst this; cases h; simpa using hv
    · split at h
      · rename_i h1
        have h1 := Nat.le_of_ble_eq_true h1
        obtain ⟨a, b, rfl, ha, hb, hl⟩ := hv.split
        have := dropS_ok h hb
        rw [List.drop_append, List.drop_of_length_le (by omega), hl]
        simpa using this
      · cases h

theorem cellAt_ok {α : Nat → Loc} : ∀ {l : List Seg} {o : Nat} {x : Cl} {vs : List Value}, cellAt l o = some x → SegsV α l vs → ∃ v, vs[o]? = some v ∧ V α x v
  | [], o, x, vs, h, hv => by simp [cellAt] at h
  | .c y :: l, o, x, vs, h, hv => by
    simp only [cellAt] at h
    cases hv with
    | c hy hl =>
      split at h
      · rename_i h0; have := Nat.eq_of_beq_eq_true h0; subst this; cases h; exact ⟨_, rfl, hy⟩
      · rename_i h0
        have h0 : o ≠ 0 := fun e => h0 (by subst e; rfl)
        obtain ⟨v, h1, h2⟩ := cellAt_ok h hl
        refine ⟨v, ?_, h2⟩
        obtain ⟨o, rfl⟩ : ∃ m, o = m + 1 := ⟨o - 1, by omega⟩
        simpa using h1
  | .ri n k f :: l, o, x, vs, h, hv => by
    simp only [cellAt] at h
    cases hv with
    | ri hl =>
      split at h
      · rename_i h0
        have h0 := Nat.le_of_ble_eq_true h0
        obtain ⟨v, h1, h2⟩ := cellAt_ok h hl
        exact ⟨v, by rw [List.getElem?_append_right (by simpa using h0)]; simpa using h1, h2⟩
      · rename_i h0
        have h0 : o < n := by
          rcases Nat.lt_or_ge o n with h' | h'
          · exact h'
          · exact absurd (Nat.ble_eq_true_of_le h') h0
        cases h
        exact ⟨.int k (f o), by rw [List.getElem?_append_left (by simpa using h0)]; simp [h0], .val _ rfl⟩
  | .r n sz f :: l, o, x, vs, h, hv => by
    simp only [cellAt] at h
    cases hv with
    | r hf hl =>
      split at h
      · rename_i h0
        have h0 := Nat.le_of_ble_eq_true h0
        obtain ⟨v, h1, h2⟩ := cellAt_ok h hl
        have e := flatMap_length (fun j hj => (hf j hj).1)
        exact ⟨v, by rw [List.getElem?_append_right (by omega), e]; exact h1, h2⟩
      · cases h

theorem segAt_ok {α : Nat → Loc} : ∀ {l : List Seg} {o : Nat} {s : Seg} {vs : List Value}, segAt l o = some s → SegsV α l vs →
    ∃ a b, SegsV α [s] a ∧ a.length = s.len ∧ vs.drop o = a ++ b
  | [], o, s, vs, h, hv => by simp [segAt] at h
  | s' :: l, o, s, vs, h, hv => by
    simp only [segAt] at h
    obtain ⟨a, b, rfl, ha, hb, hl⟩ := hv.split
    split at h
    · rename_i h0; have := Nat.eq_of_beq_eq_true h0; subst this; cases h; exact ⟨a, b, ha, hl, by simp⟩
    · split at h
      · rename_i h1
        have h1 := Nat.le_of_ble_eq_true h1
        obtain ⟨a', b', h2, h3, h4⟩ := segAt_ok h hb
        exact ⟨a', b', h2, h3, by rw [List.drop_append, List.drop_of_length_le (by omega), hl]; simpa using h4⟩
      · cases h

/-- the segment that begins at o is another one of the same length -/
theorem putAt_ok {α : Nat → Loc} : ∀ {l : List Seg} {o : Nat} {s s' : Seg} {r : List Seg} {vs : List Value} {a' : List Value}, putAt l o s' = some r → segAt l o = some s → SegsV α l vs →
    SegsV α [s'] a' → a'.length = s.len → SegsV α r (vs.take o ++ a' ++ vs.drop (o + s.len))
  | [], o, s, s', r, vs, a', h, hs, hv, hn, hl => by simp [putAt] at h
  | t :: l, o, s, s', r, vs, a', h, hs, hv, hn, hl => by
    simp only [putAt] at h
    simp only [segAt] at hs
    obtain ⟨a, b, rfl, ha, hb, hla⟩ := hv.split
    split at h
    · rename_i h0
      rw [if_pos h0] at hs
      have := Nat.eq_of_beq_eq_true h0; subst this; cases h; cases hs
      have : (a ++ b).drop (0 + t.len) = b := by rw [List.drop_append, List.drop_of_length_le (by omega), hla]; simp
      rw [this]; simpa using hn.cons hb
    · rename_i h0
      rw [if_neg h0] at hs
      split at h
      · rename_i h1
        rw [if_pos h1] at hs
        have h1 := Nat.le_of_ble_eq_true h1
        split at h
        · rename_i r' hr
          cases h
          have := putAt_ok hr hs hb hn hl
          have e1 : (a ++ b).take o = a ++ b.take (o - t.len) := by rw [List.take_append, List.take_of_length_le (by omega), hla]
          have e2 : (a ++ b).drop (o + s.len) = b.drop (o - t.len + s.len) := by
            rw [List.drop_append, List.drop_of_length_le (by omega), hla]; simp; congr 1; omega
          rw [e1, e2]
          have := ha.cons this
          simpa [List.append_assoc] using this
        · cases h
      · cases h

theorem upd_map (n : Nat) (k : IntKind) (f : Nat → Int) (o : Nat) (v : Int) : (List.range n).map (fun j => Value.int k (upd f o v j)) = ((List.range n).map (fun j => Value.int k (f j))).set o (.int k v) := by
  apply List.ext_getElem?
  intro j
  by_cases hj : j < n
  · by_cases h : j = o
    · subst h; simp [hj, upd]
    · have hb' : (j.beq o) = false := by
        cases hb : j.beq o with
        | false => rfl
        | true => exact absurd (Nat.eq_of_beq_eq_true hb) h
      rw [List.getElem?_set_ne (by omega)]
      simp [hj, upd, hb']
  · simp [hj]

theorem putCell_ok {α : Nat → Loc} : ∀ {l : List Seg} {o : Nat} {x : Cl} {r : List Seg} {vs : List Value} {v : Value}, putCell l o x = some r → SegsV α l vs → V α x v →
    SegsV α r (vs.set o v) ∧ o < vs.length
  | [], o, x, r, vs, v, h, hv, hx => by simp [putCell] at h
  | .c y :: l, o, x, r, vs, v, h, hv, hx => by
    simp only [putCell] at h
    cases hv with
    | c hy hl =>
      split at h
      · rename_i h0; have := Nat.eq_of_beq_eq_true h0; subst this; cases h; exact ⟨.c hx hl, by simp⟩
      · rename_i h0
        have h0 : o ≠ 0 := fun e => h0 (by subst e; rfl)
        split at h
        · rename_i r' hr
          cases h
          obtain ⟨h1, h2⟩ := putCell_ok hr hl hx
          obtain ⟨o, rfl⟩ : ∃ m, o = m + 1 := ⟨o - 1, by omega⟩
          exact ⟨.c hy (by simpa using h1), by simpa using h2⟩
        · cases h
  | .ri n k f :: l, o, x, r, vs, v, h, hv, hx => by
    simp only [putCell] at h
    cases hv with
    | ri hl =>
      split at h
      · rename_i h0
        have h0 := Nat.le_of_ble_eq_true h0
        split at h
        · rename_i r' hr
          cases h
          obtain ⟨h1, h2⟩ := putCell_ok hr hl hx
          refine ⟨?_, by simp; omega⟩
          rw [List.set_append_right _ _ (by simpa using h0)]
          simpa using SegsV.ri (k := k) (f := f) (n := n) h1
        · cases h
      · rename_i h0
        have h0 : o < n := by
          rcases Nat.lt_or_ge o n with h' | h'
          · exact h'
          · exact absurd (Nat.ble_eq_true_of_le h') h0
        split at h
        · split at h
          · rename_i hk
            cases h; cases hx; subst hk
            refine ⟨?_, by simp; omega⟩
            rw [List.set_append_left _ _ (by simpa using h0), ← upd_map]
            exact .ri hl
          · cases h
        · cases h
  | .r n sz f :: l, o, x, r, vs, v, h, hv, hx => by
    simp only [putCell] at h
    cases hv with
    | r hf hl =>
      have e := flatMap_length (fun j hj => (hf j hj).1)
      split at h
      · rename_i h0
        have h0 := Nat.le_of_ble_eq_true h0
        split at h
        · rename_i r' hr
          cases h
          obtain ⟨h1, h2⟩ := putCell_ok hr hl hx
          refine ⟨?_, by simp only [List.length_append, e]; omega⟩
          rw [List.set_append_right _ _ (by omega), e]
          exact SegsV.r hf h1
        · cases h
      · cases h

theorem putSegs_ok {α : Nat → Loc} : ∀ {l : List Seg} {o : Nat} {new r : List Seg} {vs us : List Value}, putSegs l o new = some r → SegsV α l vs → SegsV α new us →
    SegsV α r (vs.take o ++ us ++ vs.drop (o + us.length)) ∧ o + us.length ≤ vs.length
  | l, 0, new, r, vs, us, h, hv, hu => by
    cases l <;> (
      simp only [putSegs] at h
      split at h
      · rename_i a b ha hb
        split at h
        · cases h
          have h1 := (takeS_ok ha hv)
          have h2 := dropS_ok hb hv
          have h3 := hu.len
          refine ⟨?_, ?_⟩
          · rw [h3]; simpa using hu.append h2
          · have := h1.1.len; rw [h1.2] at this; simp at this; omega
        · cases h
      · cases h)
  | [], o + 1, new, r, vs, us, h, hv, hu => by simp [putSegs] at h
  | s :: l, o + 1, new, r, vs, us, h, hv, hu => by
    simp only [putSegs] at h
    split at h
    · rename_i h1
      have h1 := Nat.le_of_ble_eq_true h1
      split at h
      · rename_i r' hr
        cases h
        obtain ⟨a, b, rfl, ha, hb, hl⟩ := hv.split
        obtain ⟨h2, h3⟩ := putSegs_ok hr hb hu
        have e1 : (a ++ b).take (o + 1) = a ++ b.take (o + 1 - s.len) := by rw [List.take_append, List.take_of_length_le (by omega), hl]
        have e2 : (a ++ b).drop (o + 1 + us.length) = b.drop (o + 1 - s.len + us.length) := by
          rw [List.drop_append, List.drop_of_length_le (by omega), hl]; simp; congr 1; omega
        rw [e1, e2]
        refine ⟨?_, by simp; omega⟩
        have := ha.cons h2
        simpa [List.append_assoc] using this
      · cases h
    · cases h

end Ev

namespace Ev
open Go

/-! ## Well-formed abstract values: the blocks are there, an element's number is below its array's length -/
def clWF (h : Heap) : Cl → Prop
  | .val _ | .bad => True
  | .ptr i _ => i < h.length
  | .dptr i off idx _ _ => ∃ b, h[i]? = some b ∧ ∀ n, arrLen b.segs off = some n → idx < n
  | .gs i sz st len => ∃ b, h[i]? = some b ∧ b.esz = sz ∧ ∀ n, arrLen b.segs 0 = some n → st + len ≤ n
  | .sl i off _ st len _ => ∃ b, h[i]? = some b ∧ ∀ n, arrLen b.segs off = some n → st + len ≤ n
  | .fn _ cs => go cs
  | .ifc _ v => clWF h v
where
  go : List Cl → Prop
    | [] => True
    | x :: l => clWF h x ∧ go l

def segsWF (h : Heap) : List Seg → Prop
  | [] => True
  | .c x :: l => clWF h x ∧ segsWF h l
  | _ :: l => segsWF h l

def acWF (h : Heap) (x : AC) : Prop := segsWF h x.segs
def acsWF (h : Heap) (l : List AC) : Prop := ∀ x ∈ l, acWF h x
def avWF (h : Heap) : AV → Prop
  | .ac x => acWF h x
  | .tup l => acsWF h l
  | .top => True
def avsWF (h : Heap) (l : List AV) : Prop := ∀ x ∈ l, avWF h x
def heapWF (h : Heap) : Prop := ∀ (i : Nat) (b : Blk), h[i]? = some b → segsWF h b.segs

theorem segsWF_append {h : Heap} : ∀ {l m : List Seg}, segsWF h (l ++ m) ↔ segsWF h l ∧ segsWF h m
  | [], m => by simp [segsWF]
  | .c x :: l, m => by simp [segsWF, segsWF_append (l := l), and_assoc]
  | .ri _ _ _ :: l, m => by simp [segsWF, segsWF_append (l := l)]
  | .r _ _ _ :: l, m => by simp [segsWF, segsWF_append (l := l)]

theorem segsWF_cons {h : Heap} {s : Seg} {l : List Seg} : segsWF h (s :: l) ↔ segsWF h [s] ∧ segsWF h l := segsWF_append (l := [s])

theorem takeS_WF {h : Heap} : ∀ {l : List Seg} {n : Nat} {r : List Seg}, takeS l n = some r → segsWF h l → segsWF h r
  | [], n, r, e, _ => by simp only [takeS] at e; split at e <;> cases e; trivial
  | s :: l, n, r, e, hw => by
    simp only [takeS] at e
    split at e
    · cases e; trivial
    · split at e
      · split at e
        · rename_i r' hr; cases e
          rw [segsWF_cons] at hw ⊢
          exact ⟨hw.1, takeS_WF hr hw.2⟩
        · cases e
      · cases e

theorem dropS_WF {h : Heap} : ∀ {l : List Seg} {n : Nat} {r : List Seg}, dropS l n = some r → segsWF h l → segsWF h r
  | [], n, r, e, _ => by simp only [dropS] at e; split at e <;> cases e; trivial
  | s :: l, n, r, e, hw => by
    simp only [dropS] at e
    split at e
    · cases e; exact hw
    · split at e
      · rw [segsWF_cons] at hw; exact dropS_WF e hw.2
      · cases e

theorem cellAt_WF {h : Heap} : ∀ {l : List Seg} {o : Nat} {x : Cl}, cellAt l o = some x → segsWF h l → clWF h x
  | [], o, x, e, _ => by simp [cellAt] at e
  | .c y :: l, o, x, e, hw => by
    simp only [cellAt] at e
    split at e
    · cases e; exact hw.1
    · exact cellAt_WF e hw.2
  | .ri n k f :: l, o, x, e, hw => by
    simp only [cellAt] at e
    split at e
    · exact cellAt_WF e hw
    · cases e; trivial
  | .r n sz f :: l, o, x, e, hw => by
    simp only [cellAt] at e
    split at e
    · exact cellAt_WF e hw
    · cases e

theorem putCell_WF {h : Heap} : ∀ {l : List Seg} {o : Nat} {x : Cl} {r : List Seg}, putCell l o x = some r → segsWF h l → clWF h x → segsWF h r
  | [], o, x, r, e, _, _ => by simp [putCell] at e
  | .c y :: l, o, x, r, e, hw, hx => by
    simp only [putCell] at e
    split at e
    · cases e; exact ⟨hx, hw.2⟩
    · split at e
      · rename_i hr; cases e; exact ⟨hw.1, putCell_WF hr hw.2 hx⟩
      · cases e
  | .ri n k f :: l, o, x, r, e, hw, hx => by
    simp only [putCell] at e
    split at e
    · split at e
      · rename_i hr; cases e; have := putCell_WF hr (show segsWF h l from hw) hx; exact this
      · cases e
    · split at e
      · split at e
        · cases e; exact hw
        · cases e
      · cases e
  | .r n sz f :: l, o, x, r, e, hw, hx => by
    simp only [putCell] at e
    split at e
    · split at e
      · rename_i hr; cases e; have := putCell_WF hr (show segsWF h l from hw) hx; exact this
      · cases e
    · cases e

theorem putSegs_WF {h : Heap} : ∀ {l : List Seg} {o : Nat} {new r : List Seg}, putSegs l o new = some r → segsWF h l → segsWF h new → segsWF h r
  | l, 0, new, r, e, hw, hn => by
    cases l <;> (
      simp only [putSegs] at e
      split at e
      · rename_i a b ha hb
        split at e
        · cases e; exact segsWF_append.2 ⟨hn, dropS_WF hb hw⟩
        · cases e
      · cases e)
  | [], o + 1, new, r, e, hw, hn => by simp [putSegs] at e
  | s :: l, o + 1, new, r, e, hw, hn => by
    simp only [putSegs] at e
    split at e
    · split at e
      · rename_i hr; cases e
        rw [segsWF_cons] at hw ⊢
        exact ⟨hw.1, putSegs_WF hr hw.2 hn⟩
      · cases e
    · cases e

theorem putAt_WF {h : Heap} : ∀ {l : List Seg} {o : Nat} {s : Seg} {r : List Seg}, putAt l o s = some r → segsWF h l → segsWF h [s] → segsWF h r
  | [], o, s, r, e, _, _ => by simp [putAt] at e
  | t :: l, o, s, r, e, hw, hs => by
    simp only [putAt] at e
    rw [segsWF_cons] at hw
    split at e
    · cases e; exact segsWF_cons.2 ⟨hs, hw.2⟩
    · split at e
      · split at e
        · rename_i hr; cases e; exact segsWF_cons.2 ⟨hw.1, putAt_WF hr hw.2 hs⟩
        · cases e
      · cases e

/-! ### stores keep the arrays' lengths -/
/-- s' has no array where s has none, and s' 's arrays are as long as s 's -/
def Fit (s s' : List Seg) : Prop := ∀ off n, arrLen s' off = some n → arrLen s off = some n

theorem Fit.refl (s : List Seg) : Fit s s := fun _ _ h => h
theorem Fit.trans {a b c : List Seg} (h : Fit a b) (k : Fit b c) : Fit a c := fun o n e => h o n (k o n e)

theorem arrLen_cons (s : Seg) (l : List Seg) (o : Nat) : arrLen (s :: l) o =
    if Nat.beq o 0 then (match s with | .ri n _ _ => some n | .r n _ _ => some n | .c _ => none) else if Nat.ble s.len o then arrLen l (o - s.len) else none := by
  unfold arrLen
  simp only [segAt]
  by_cases h0 : Nat.beq o 0 = true
  · simp only [if_pos h0]; cases s <;> rfl
  · simp only [if_neg h0]
    by_cases h1 : Nat.ble s.len o = true
    · simp only [if_pos h1]
    · simp only [if_neg h1]

theorem Fit.cons {s s' : Seg} {l m : List Seg} (hl : s.len = s'.len) (h0 : ∀ n, arrLen [s'] 0 = some n → arrLen [s] 0 = some n) (h : Fit l m) : Fit (s :: l) (s' :: m) := by
  intro o n e
  rw [arrLen_cons] at e ⊢
  split at e
  · rename_i ho
    rw [if_pos ho]
    have := h0 n (by rw [arrLen_cons]; simpa using e)
    rw [arrLen_cons] at this
    simpa using this
  · rename_i ho
    rw [if_neg ho, hl]
    split at e
    · rename_i hb; rw [if_pos hb]; exact h _ _ e
    · cases e

theorem putCell_fit : ∀ {l : List Seg} {o : Nat} {x : Cl} {r : List Seg}, putCell l o x = some r → Fit l r
  | [], o, x, r, e => by simp [putCell] at e
  | .c y :: l, o, x, r, e => by
    simp only [putCell] at e
    split at e
    · cases e; exact .cons rfl (fun n hn => by simp [arrLen, segAt] at hn) (.refl _)
    · split at e
      · rename_i hr; cases e; exact .cons rfl (fun n hn => hn) (putCell_fit hr)
      · cases e
  | .ri n k f :: l, o, x, r, e => by
    simp only [putCell] at e
    split at e
    · split at e
      · rename_i hr; cases e; exact .cons rfl (fun n hn => hn) (putCell_fit hr)
      · cases e
    · split at e
      · split at e
        · cases e; exact .cons rfl (fun n hn => hn) (.refl _)
        · cases e
      · cases e
  | .r n sz f :: l, o, x, r, e => by
    simp only [putCell] at e
    split at e
    · split at e
      · rename_i hr; cases e; exact .cons rfl (fun n hn => hn) (putCell_fit hr)
      · cases e
    · cases e

theorem putAt_fit : ∀ {l : List Seg} {o : Nat} {s s' : Seg} {r : List Seg}, putAt l o s' = some r → segAt l o = some s → s.len = s'.len → (∀ n, arrLen [s'] 0 = some n → arrLen [s] 0 = some n) → Fit l r
  | [], o, s, s', r, e, _, _, _ => by simp [putAt] at e
  | t :: l, o, s, s', r, e, hs, hl, ha => by
    simp only [putAt] at e
    simp only [segAt] at hs
    split at e
    · rename_i h0; rw [if_pos h0] at hs; cases e; cases hs; exact .cons hl ha (.refl _)
    · rename_i h0; rw [if_neg h0] at hs
      split at e
      · rename_i h1; rw [if_pos h1] at hs
        split at e
        · rename_i hr; cases e; exact .cons rfl (fun n hn => hn) (putAt_fit hr hs hl ha)
        · cases e
      · cases e

theorem fitS_ok : ∀ {a new l b : List Seg}, fitS a new = true → takeS l (totLen new) = some a → dropS l (totLen new) = some b → Fit l (new ++ b)
  | a, [], l, b, h, ht, hd => by
    cases l with
    | nil => simp [dropS, totLen] at hd; cases hd; exact .refl _
    | cons s l => simp [dropS, totLen] at hd; cases hd; exact .refl _
  | a, s' :: new, l, b, h, ht, hd => by
    cases l with
    | nil =>
      simp only [takeS] at ht
      split at ht
      · cases ht; simp [fitS] at h
      · cases ht
    | cons s l =>
      simp only [takeS] at ht
      simp only [dropS] at hd
      have hpos : 0 < totLen (s' :: new) ∨ totLen (s' :: new) = 0 := by omega
      by_cases h0 : Nat.beq (totLen (s' :: new)) 0 = true
      · rw [if_pos h0] at ht; cases ht; simp [fitS] at h
      · rw [if_neg h0] at ht hd
        split at ht
        · rename_i hle
          rw [if_pos hle] at hd
          split at ht
          · rename_i a' ha'
            cases ht
            have key : s.len = s'.len ∧ (∀ n, arrLen [s'] 0 = some n → arrLen [s] 0 = some n) ∧ fitS a' new = true := by
              cases s <;> cases s' <;> simp only [fitS] at h
              · exact ⟨rfl, fun n hn => by simp [arrLen, segAt] at hn, h⟩
              · cases h
              · cases h
              · cases h
              · split at h
                · rename_i hn; have := Nat.eq_of_beq_eq_true hn; subst this
                  split at h
                  · exact ⟨rfl, fun n hn => by simpa [arrLen, segAt] using hn, h⟩
                  · cases h
                · cases h
              · cases h
              · cases h
              · cases h
              · split at h
                · rename_i hn; have := Nat.eq_of_beq_eq_true hn; subst this
                  split at h
                  · rename_i hm; have := Nat.eq_of_beq_eq_true hm; subst this
                    exact ⟨rfl, fun n hn => by simpa [arrLen, segAt] using hn, h⟩
                  · cases h
                · cases h
            obtain ⟨hl, ha, hf⟩ := key
            have e : totLen (s' :: new) - s.len = totLen new := by simp [totLen, hl]
            rw [e] at ha' hd
            exact .cons hl ha (fitS_ok hf ha' hd)
          · cases ht
        · cases ht

theorem putSegs_fit : ∀ {l : List Seg} {o : Nat} {new r : List Seg}, putSegs l o new = some r → Fit l r
  | l, 0, new, r, e => by
    cases l <;> (
      simp only [putSegs] at e
      split at e
      · rename_i a b ha hb
        split at e
        · rename_i hf; cases e; exact fitS_ok hf ha hb
        · cases e
      · cases e)
  | [], o + 1, new, r, e => by simp [putSegs] at e
  | s :: l, o + 1, new, r, e => by
    simp only [putSegs] at e
    split at e
    · split at e
      · rename_i hr; cases e; exact .cons rfl (fun n hn => hn) (putSegs_fit hr)
      · cases e
    · cases e

/-! ## The world -/
structure BlkOk (α : Nat → Loc) (w : World) (i : Nat) (b : Blk) : Prop where
  ex : (α i).real = true → ∃ c t fz vs, w.heap[(α i).b]? = some (.cells c t fz) ∧ SegsV α b.segs vs ∧ (∀ j v, vs[j]? = some v → c[(α i).o + j]? = some v) ∧
    (b.mu = true → ∀ o, o < c.size → ¬ (fz.1 ≤ o ∧ o < fz.2)) ∧ (α i).o + (α i).cap * b.esz ≤ c.size
  nl : (α i).real = false → SegsV α b.segs []

/-- a block whose cells nobody knows any longer is dead -/
abbrev Blk.live (b : Blk) : Prop := b.segs ≠ []

structure Sat (α : Nat → Loc) (h : Heap) (w : World) : Prop where
  blk : ∀ (i : Nat) (b : Blk), h[i]? = some b → BlkOk α w i b
  sep : ∀ (i j : Nat) (b b' : Blk), h[i]? = some b → b.mu = true → (α i).real = true → b.live → h[j]? = some b' → (α j).real = true → b'.live → (α i).b = (α j).b → i = j

/-- from (α, h, w) to (α', h', w') -/
structure Stp (α : Nat → Loc) (h : Heap) (w : World) (α' : Nat → Loc) (h' : Heap) (w' : World) : Prop where
  os : w'.os = w.os
  tape : w'.tape = w.tape
  output : w'.output = w.output
  size : w.heap.size ≤ w'.heap.size
  cells : ∀ (k : Nat) (c : Array Value) (t : TypeId) (fz : Nat × Nat), w.heap[k]? = some (.cells c t fz) → ∃ c' : Array Value, w'.heap[k]? = some (.cells c' t fz) ∧ c'.size = c.size
  frame : ∀ k, k < w.heap.size → (∀ (i : Nat) (b : Blk), h[i]? = some b → b.mu = true → (α i).real = true → b.live → (α i).b ≠ k) → w'.heap[k]? = w.heap[k]?
  al : ∀ i, i < h.length → α' i = α i
  shape : ∀ (i : Nat) (b : Blk), h[i]? = some b → ∃ b', h'[i]? = some b' ∧ b'.mu = b.mu ∧ b'.esz = b.esz ∧ Fit b.segs b'.segs ∧ (b'.live → b.live)
  newb : ∀ (i : Nat) (b : Blk), h'[i]? = some b → b.mu = true → (α' i).real = true → b.live → w.heap.size ≤ (α' i).b ∨ ∃ j b', h[j]? = some b' ∧ b'.mu = true ∧ (α j).real = true ∧ b'.live ∧ (α j).b = (α' i).b
  fixd : ∀ (i : Nat) (b : Blk), h[i]? = some b → b.mu = false → plainB b.segs = true → h'[i]? = some b

theorem Stp.refl (α : Nat → Loc) (h : Heap) (w : World) : Stp α h w α h w :=
  ⟨rfl, rfl, rfl, Nat.le_refl _, fun _ c _ _ hk => ⟨c, hk, rfl⟩, fun _ _ _ => rfl, fun _ _ => rfl, fun _ b hb => ⟨b, hb, rfl, rfl, .refl _, id⟩, fun i b hb hm hr hl => .inr ⟨i, b, hb, hm, hr, hl, rfl⟩, fun _ _ hb _ _ => hb⟩

theorem lt_of_get {α : Type} {l : List α} {i : Nat} {x : α} (h : l[i]? = some x) : i < l.length := (List.getElem?_eq_some_iff.1 h).1

theorem Stp.trans {α α' α'' : Nat → Loc} {h h' h'' : Heap} {w w' w'' : World} (s : Stp α h w α' h' w') (t : Stp α' h' w' α'' h'' w'') : Stp α h w α'' h'' w'' where
  os := t.os.trans s.os
  tape := t.tape.trans s.tape
  output := t.output.trans s.output
  size := Nat.le_trans s.size t.size
  cells := fun k c ty fz hk => by
    obtain ⟨c', h1, h2⟩ := s.cells k c ty fz hk
    obtain ⟨c'', h3, h4⟩ := t.cells k c' ty fz h1
    exact ⟨c'', h3, h4.trans h2⟩
  frame := fun k hk hn => by
    rw [t.frame k (Nat.lt_of_lt_of_le hk s.size) (fun i b hb hm hr hl he => ?_), s.frame k hk hn]
    rcases s.newb i b hb hm hr hl with h1 | ⟨j, b', h1, h2, h3, h4, h5⟩
    · omega
    · exact hn j b' h1 h2 h3 h4 (h5.trans he)
  al := fun i hi => by
    obtain ⟨b', hb', _⟩ := s.shape i _ (List.getElem?_eq_getElem hi)
    rw [t.al i (lt_of_get hb'), s.al i hi]
  shape := fun i b hb => by
    obtain ⟨b', h1, h2, h3, h4, h5⟩ := s.shape i b hb
    obtain ⟨b'', k1, k2, k3, k4, k5⟩ := t.shape i b' h1
    exact ⟨b'', k1, k2.trans h2, k3.trans h3, h4.trans k4, fun hl => h5 (k5 hl)⟩
  newb := fun i b hb hm hr hl => by
    rcases t.newb i b hb hm hr hl with h1 | ⟨j, b', h1, h2, h3, h4, h5⟩
    · exact .inl (Nat.le_trans s.size h1)
    · rw [← h5]; exact s.newb j b' h1 h2 h3 h4
  fixd := fun i b hb hm hp => t.fixd i b (s.fixd i b hb hm hp) hm hp

theorem Stp.length {α α' : Nat → Loc} {h h' : Heap} {w w' : World} (s : Stp α h w α' h' w') : h.length ≤ h'.length := by
  rcases Nat.eq_zero_or_pos h.length with e | e
  · omega
  · obtain ⟨b', hb', _⟩ := s.shape (h.length - 1) _ (List.getElem?_eq_getElem (by omega))
    have := lt_of_get hb'; omega

theorem World.size_lt_of_heap {w : World} {k : Nat} {o : Obj} (h : w.heap[k]? = some o) : k < w.heap.size := (Array.getElem?_eq_some_iff.1 h).1

/-! ### what keeps its meaning -/
theorem clWF_lt {h : Heap} {i : Nat} : ∀ {x : Cl}, clWF h x → i ∈ refsCl x → i < h.length
  | .val _, _, e => by simp [refsCl] at e
  | .bad, _, e => by simp [refsCl] at e
  | .ptr j off, hw, e => by simp [refsCl] at e; subst e; exact hw
  | .dptr j off idx sz fo, hw, e => by simp [refsCl] at e; subst e; obtain ⟨b, hb, _⟩ := hw; exact lt_of_get hb
  | .gs j sz st len, hw, e => by simp [refsCl] at e; subst e; obtain ⟨b, hb, _⟩ := hw; exact lt_of_get hb
  | .sl j off sz st len cap, hw, e => by simp [refsCl] at e; subst e; obtain ⟨b, hb, _⟩ := hw; exact lt_of_get hb
  | .fn f cs, hw, e => go hw e
  | .ifc t v, hw, e => clWF_lt (x := v) hw e
where
  go {h : Heap} {i : Nat} : ∀ {cs : List Cl}, clWF.go h cs → i ∈ refsCl.go cs → i < h.length
    | [], _, e => by simp [refsCl.go] at e
    | x :: l, hw, e => by
      simp only [refsCl.go, List.mem_append] at e
      rcases e with e | e
      · exact clWF_lt hw.1 e
      · exact go hw.2 e

theorem segsWF_lt {h : Heap} {i : Nat} : ∀ {l : List Seg}, segsWF h l → i ∈ refsSegs l → i < h.length
  | [], _, e => by simp [refsSegs] at e
  | .c x :: l, hw, e => by
    simp only [refsSegs, List.mem_append] at e
    rcases e with e | e
    · exact clWF_lt hw.1 e
    · exact segsWF_lt hw.2 e
  | .ri _ _ _ :: l, hw, e => segsWF_lt (l := l) hw e
  | .r _ _ _ :: l, hw, e => segsWF_lt (l := l) hw e

mutual
theorem V.agree {α α' : Nat → Loc} {x : Cl} {v : Value} (hv : V α x v) (ha : ∀ i ∈ refsCl x, α' i = α i) : V α' x v := by
  cases hv with
  | val _ hu => exact .val _ hu
  | bad _ hu => exact .bad _ hu
  | ptr i off => rw [← ha i (by simp [refsCl])]; exact .ptr i off
  | dptr i off idx sz fo => rw [← ha i (by simp [refsCl])]; exact .dptr i off idx sz fo
  | gsNil i sz st h => exact .gsNil i sz st (by rw [ha i (by simp [refsCl])]; exact h)
  | gs i sz st len ad h1 h2 h3 h4 =>
    have e := ha i (by simp [refsCl])
    rw [← e] at h1 h2 h4 ⊢
    exact .gs i sz st len ad h1 h2 h3 h4
  | sl i off sz st len cap ad h1 h2 h3 =>
    have e := ha i (by simp [refsCl])
    rw [← e] at h3
    exact .sl i off sz st len cap ad h1 h2 h3
  | fn f caps vs h => exact .fn f caps vs (h.agree fun i hi => ha i hi)
  | ifc t y u h => exact .ifc t y u (h.agree fun i hi => ha i hi)
theorem Vs.agree {α α' : Nat → Loc} {l : List Cl} {vs : List Value} (hv : Vs α l vs) (ha : ∀ i ∈ refsCl.go l, α' i = α i) : Vs α' l vs := by
  cases hv with
  | nil => exact .nil
  | cons h1 h2 => exact .cons (h1.agree fun i hi => ha i (by simp [refsCl.go, hi])) (h2.agree fun i hi => ha i (by simp [refsCl.go, hi]))
end

theorem SegsV.agree' {α α' : Nat → Loc} : ∀ {l : List Seg} {vs : List Value}, (∀ i ∈ refsSegs l, α' i = α i) → SegsV α l vs → SegsV α' l vs
  | [], vs, _, hv => by cases hv; exact .nil
  | .c x :: l, vs, ha, hv => by cases hv with | c h1 h2 => exact .c (h1.agree fun i hi => ha i (by simp [refsSegs, hi])) (SegsV.agree' (fun i hi => ha i (by simp [refsSegs, hi])) h2)
  | .ri n k f :: l, vs, ha, hv => by cases hv with | ri h2 => exact .ri (SegsV.agree' (l := l) ha h2)
  | .r n sz f :: l, vs, ha, hv => by cases hv with | r h1 h2 => exact .r h1 (SegsV.agree' (l := l) ha h2)

theorem SegsV.agree {α α' : Nat → Loc} {h : Heap} (ha : ∀ i, i < h.length → α' i = α i) {l : List Seg} {vs : List Value} (hw : segsWF h l) (hv : SegsV α l vs) : SegsV α' l vs :=
  hv.agree' fun i hi => ha i (segsWF_lt hw hi)

theorem ACV.agree' {α α' : Nat → Loc} {x : AC} {v : Value} (ha : ∀ i ∈ refsSegs x.segs, α' i = α i) (hv : ACV α x v) : ACV α' x v := by
  cases hv with
  | one hx => exact .one (hx.agree fun i hi => ha i (by simp [AC.segs, refsSegs, hi]))
  | agg hl => exact .agg (hl.agree' ha)

theorem ACVs.agree' {α α' : Nat → Loc} {l : List AC} {vs : List Value} (ha : ∀ i ∈ refsACs l, α' i = α i) (hv : ACVs α l vs) : ACVs α' l vs := by
  induction hv with
  | nil => exact .nil
  | cons h1 _ ih => exact .cons (h1.agree' fun i hi => ha i (by simp [refsACs, hi])) (ih fun i hi => ha i (by simp [refsACs, hi]))

theorem AVV.agree' {α α' : Nat → Loc} {x : AV} {v : Value} (ha : ∀ i ∈ refsAV x, α' i = α i) (hv : AVV α x v) : AVV α' x v := by
  cases hv with
  | ac h => exact .ac (h.agree' ha)
  | tup h => exact .tup (h.agree' ha)
  | top v => exact .top v

theorem acsWF_lt {h : Heap} {i : Nat} : ∀ {l : List AC}, acsWF h l → i ∈ refsACs l → i < h.length
  | [], _, e => by simp [refsACs] at e
  | x :: l, hw, e => by
    simp only [refsACs, List.mem_append] at e
    rcases e with e | e
    · exact segsWF_lt (hw x (by simp)) e
    · exact acsWF_lt (fun y hy => hw y (by simp [hy])) e

theorem avWF_lt {h : Heap} {i : Nat} {x : AV} (hw : avWF h x) (e : i ∈ refsAV x) : i < h.length := by
  cases x with
  | ac x => exact segsWF_lt hw e
  | tup l => exact acsWF_lt hw e
  | top => simp [refsAV] at e

/-- where well-formed values keep their meaning: each block has its place and its arrays' lengths -/
theorem clWF_shape {h h' : Heap} (hs : ∀ (i : Nat) (b : Blk), h[i]? = some b → ∃ b', h'[i]? = some b' ∧ b'.esz = b.esz ∧ Fit b.segs b'.segs) (hl : h.length ≤ h'.length) : ∀ {x : Cl}, clWF h x → clWF h' x
  | .val _, _ => trivial
  | .bad, _ => trivial
  | .ptr i off, hw => Nat.lt_of_lt_of_le hw hl
  | .dptr i off idx sz fo, hw => by
    obtain ⟨b, hb, hn⟩ := hw
    obtain ⟨b', h1, _, h4⟩ := hs i b hb
    exact ⟨b', h1, fun n e => hn n (h4 _ _ e)⟩
  | .gs i sz st len, hw => by
    obtain ⟨b, hb, he, hn⟩ := hw
    obtain ⟨b', h1, h3, h4⟩ := hs i b hb
    exact ⟨b', h1, h3.trans he, fun n e => hn n (h4 _ _ e)⟩
  | .sl i off sz st len cap, hw => by
    obtain ⟨b, hb, hn⟩ := hw
    obtain ⟨b', h1, _, h4⟩ := hs i b hb
    exact ⟨b', h1, fun n e => hn n (h4 _ _ e)⟩
  | .fn f cs, hw => go hs hl hw
  | .ifc t v, hw => clWF_shape hs hl (x := v) hw
where
  go {h h' : Heap} (hs : ∀ (i : Nat) (b : Blk), h[i]? = some b → ∃ b', h'[i]? = some b' ∧ b'.esz = b.esz ∧ Fit b.segs b'.segs) (hl : h.length ≤ h'.length) : ∀ {cs : List Cl}, clWF.go h cs → clWF.go h' cs
    | [], _ => trivial
    | x :: l, hw => ⟨clWF_shape hs hl hw.1, go hs hl hw.2⟩

theorem segsWF_shape {h h' : Heap} (hs : ∀ (i : Nat) (b : Blk), h[i]? = some b → ∃ b', h'[i]? = some b' ∧ b'.esz = b.esz ∧ Fit b.segs b'.segs) (hl : h.length ≤ h'.length) : ∀ {l : List Seg}, segsWF h l → segsWF h' l
  | [], _ => trivial
  | .c x :: l, hw => ⟨clWF_shape hs hl hw.1, segsWF_shape hs hl hw.2⟩
  | .ri _ _ _ :: l, hw => segsWF_shape hs hl (l := l) hw
  | .r _ _ _ :: l, hw => segsWF_shape hs hl (l := l) hw

theorem avWF_shape {h h' : Heap} (hs : ∀ (i : Nat) (b : Blk), h[i]? = some b → ∃ b', h'[i]? = some b' ∧ b'.esz = b.esz ∧ Fit b.segs b'.segs) (hl : h.length ≤ h'.length) {x : AV} (hw : avWF h x) : avWF h' x := by
  cases x with
  | ac x => exact segsWF_shape hs hl hw
  | tup l => exact fun y hy => segsWF_shape hs hl (hw y hy)
  | top => trivial

theorem Stp.shapes {α α' : Nat → Loc} {h h' : Heap} {w w' : World} (s : Stp α h w α' h' w') : ∀ (i : Nat) (b : Blk), h[i]? = some b → ∃ b', h'[i]? = some b' ∧ b'.esz = b.esz ∧ Fit b.segs b'.segs := fun i b hb => by
  obtain ⟨b', h1, _, h3, h4, _⟩ := s.shape i b hb; exact ⟨b', h1, h3, h4⟩

theorem Stp.avWF {α α' : Nat → Loc} {h h' : Heap} {w w' : World} (s : Stp α h w α' h' w') {x : AV} (hw : avWF h x) : Ev.avWF h' x := avWF_shape s.shapes s.length hw

theorem Stp.avV {α α' : Nat → Loc} {h h' : Heap} {w w' : World} (s : Stp α h w α' h' w') {x : AV} {v : Value} (hw : Ev.avWF h x) (hv : AVV α x v) : AVV α' x v :=
  hv.agree' fun i hi => s.al i (avWF_lt hw hi)

end Ev

namespace Ev
open Go

/-! ## Loads and stores in the world -/
theorem addr_add (b x n : Nat) : (⟨b, x, none⟩ : Addr).add n = ⟨b, x + n, none⟩ := by
  unfold Addr.add; split
  · rename_i h; subst h; rfl
  · rfl

theorem Sat.cells {α : Nat → Loc} {h : Heap} {w : World} (s : Sat α h w) {i : Nat} {b : Blk} (hb : h[i]? = some b) :
    ∃ vs, SegsV α b.segs vs ∧ ∀ j v, vs[j]? = some v → w.cell? ⟨(α i).b, (α i).o + j, none⟩ = some v := by
  have k := s.blk i b hb
  cases hr : (α i).real with
  | true =>
    obtain ⟨c, t, fz, vs, h1, h2, h3, _⟩ := k.ex hr
    exact ⟨vs, h2, fun j v hj => by simp [World.cell?, h1, h3 j v hj]⟩
  | false => exact ⟨[], k.nl hr, fun j v hj => by simp at hj⟩

theorem run_isAggB {P : Program} {t : TypeId} {b : Bool} (h : isAggB P t = some b) (w : World) : (isAgg t).run P w = .ok b w := by
  unfold isAggB at h
  split at h
  · rename_i hu; cases h; simp [isAgg, run_underlying hu]
  · rename_i hu; cases h; simp [isAgg, run_underlying hu]
  · rename_i d hu h1 h2
    cases h
    have hu := h2
    simp only [isAgg, Sem.run_bind]
    rw [run_underlying h2]
    simp only [Result.andThen_ok]
    cases d <;> first | rfl | (exact absurd h2 (by first | exact hu _ | exact h1 _ _)) | skip
  · cases h

theorem run_sizeOf' {P : Program} {t : TypeId} {i : TypeInfo} (h : P.info? t = some i) (w : World) : (Go.sizeOf t).run P w = .ok i.size w := by
  simp [Go.sizeOf, typeInfo, h]

theorem loadVar_agg {P : Program} {w : World} {t : TypeId} {i : TypeInfo} {bk base : Nat} {us : List Value} (hi : P.info? t = some i) (ha : isAggB P t = some true)
    (hl : us.length = i.size) (hc : ∀ j v, us[j]? = some v → w.cell? ⟨bk, base + j, none⟩ = some v) : (loadVar t ⟨bk, base, none⟩).run P w = .ok (.agg us.toArray) w := by
  unfold loadVar
  simp only [Sem.run_bind, run_isAggB ha, Result.andThen_ok, if_true, run_sizeOf' hi]
  rw [← hl, run_loadCells_list w _ us (fun j v hj => by rw [addr_add]; exact hc j v hj)]
  simp

theorem loadVar_cell {P : Program} {w : World} {t : TypeId} {a : Addr} {v : Value} (ha : isAggB P t = some false) (hc : w.cell? a = some v) : (loadVar t a).run P w = .ok v w := by
  unfold loadVar
  simp [run_isAggB ha, hc]

theorem loadS_ok {P : Program} {α : Nat → Loc} {w : World} {t : TypeId} {segs : List Seg} {o : Nat} {x : AC} {vs : List Value} {bk base : Nat} (h : loadS P t segs o = some x)
    (hv : SegsV α segs vs) (hc : ∀ j v, vs[j]? = some v → w.cell? ⟨bk, base + j, none⟩ = some v) : ∃ u, (loadVar t ⟨bk, base + o, none⟩).run P w = .ok u w ∧ ACV α x u := by
  unfold loadS at h
  split at h
  · rename_i i hi ha
    split at h
    · rename_i l hd
      split at h
      · rename_i r hr
        cases h
        obtain ⟨h1, h2⟩ := takeS_ok hr (dropS_ok hd hv)
        refine ⟨_, loadVar_agg hi ha (by rw [h1.len, h2]) (fun j v hj => ?_), .agg h1⟩
        rw [List.getElem?_take] at hj
        split at hj
        · rw [List.getElem?_drop] at hj
          rw [Nat.add_assoc]; exact hc _ _ hj
        · cases hj
      · cases h
    · cases h
  · rename_i i hi ha
    split at h
    · rename_i y hy
      cases h
      obtain ⟨v, h1, h2⟩ := cellAt_ok hy hv
      exact ⟨v, loadVar_cell ha (hc o v h1), .one h2⟩
    · cases h
  · cases h

theorem loadS_WF {P : Program} {h : Heap} {t : TypeId} {segs : List Seg} {o : Nat} {x : AC} (e : loadS P t segs o = some x) (hw : segsWF h segs) : acWF h x := by
  unfold loadS at e
  split at e
  · split at e
    · rename_i l hd
      split at e
      · rename_i r hr; cases e; exact takeS_WF hr (dropS_WF hd hw)
      · cases e
    · cases e
  · split at e
    · rename_i y hy; cases e; exact ⟨cellAt_WF hy hw, trivial⟩
    · cases e
  · cases e

theorem valsV {α : Nat → Loc} : ∀ {l : List Value}, (∀ u ∈ l, u.oneCell' = true) → SegsV α (l.map fun v => .c (.val v)) l
  | [], _ => .nil
  | v :: l, h => .c (.val v (h v (by simp))) (valsV fun u hu => h u (by simp [hu]))

theorem valsWF {h : Heap} : ∀ {l : List Value}, segsWF h (l.map fun v => .c (.val v))
  | [] => trivial
  | _ :: l => ⟨trivial, valsWF (l := l)⟩

theorem loadE_ok {P : Program} {α : Nat → Loc} {w : World} {t : TypeId} {e : List Value} {fo : Nat} {x : AC} {bk base : Nat} (h : loadE P t e fo = some x)
    (h1 : ∀ u ∈ e, u.oneCell' = true) (hc : ∀ j v, e[j]? = some v → w.cell? ⟨bk, base + j, none⟩ = some v) : ∃ u, (loadVar t ⟨bk, base + fo, none⟩).run P w = .ok u w ∧ ACV α x u := by
  unfold loadE at h
  split at h
  · rename_i i hi ha
    simp only at h
    split at h
    · rename_i hb
      cases h
      have hb := Nat.eq_of_beq_eq_true hb
      refine ⟨_, loadVar_agg hi ha hb (fun j v hj => ?_), .agg (valsV fun u hu => h1 u (List.mem_of_mem_drop (List.mem_of_mem_take hu)))⟩
      rw [List.getElem?_take] at hj
      split at hj
      · rw [List.getElem?_drop] at hj
        rw [Nat.add_assoc]; exact hc _ _ hj
      · cases hj
    · cases h
  · rename_i i hi ha
    split at h
    · rename_i y hy
      cases h
      exact ⟨y, loadVar_cell ha (hc fo y hy), .one (.val _ (h1 y (List.mem_of_getElem? hy)))⟩
    · cases h
  · cases h

theorem loadE_WF {P : Program} {h : Heap} {t : TypeId} {e : List Value} {fo : Nat} {x : AC} (k : loadE P t e fo = some x) : acWF h x := by
  unfold loadE at k
  split at k
  · simp only at k
    split at k
    · cases k; exact valsWF
    · cases k
  · split at k
    · cases k; exact ⟨trivial, trivial⟩
    · cases k
  · cases k

theorem loadD_ok {P : Program} {α : Nat → Loc} {w : World} {t : TypeId} {segs : List Seg} {o idx sz fo : Nat} {x : AC} {vs : List Value} {bk base : Nat} (h : loadD P t segs o idx sz fo = some x)
    (hv : SegsV α segs vs) (hn : ∀ n, arrLen segs o = some n → idx < n) (hc : ∀ j v, vs[j]? = some v → w.cell? ⟨bk, base + j, none⟩ = some v) :
    ∃ u, (loadVar t ⟨bk, base + (o + idx * sz + fo), none⟩).run P w = .ok u w ∧ ACV α x u := by
  unfold loadD at h
  split at h
  · rename_i n k f hs
    have hidx := hn n (by simp [arrLen, hs])
    obtain ⟨a, b, ha, hl, hd⟩ := segAt_ok hs hv
    cases ha with
    | ri hnil =>
      cases hnil
      split at h
      · rename_i i hg hi
        split at h
        · rename_i hsz
          split at h
          · rename_i hfo
            cases h
            have hsz := Nat.eq_of_beq_eq_true hsz
            have hfo := Nat.eq_of_beq_eq_true hfo
            subst hsz hfo
            refine ⟨.int k (f idx), loadVar_cell hg (hc _ _ ?_), .one (.val _ rfl)⟩
            rw [Nat.mul_one, Nat.add_zero, ← List.getElem?_drop, hd, List.getElem?_append_left (by simpa using hidx)]
            simp [hidx]
          · cases h
        · cases h
      · cases h
  · rename_i n sz' f hs
    have hidx := hn n (by simp [arrLen, hs])
    obtain ⟨a, b, ha, hl, hd⟩ := segAt_ok hs hv
    cases ha with
    | r hf hnil =>
      cases hnil
      split at h
      · rename_i hsz
        have hsz := Nat.eq_of_beq_eq_true hsz
        subst hsz
        have := loadE_ok (α := α) (w := w) (bk := bk) (base := base + o + idx * sz) h (hf idx hidx).2 (fun j v hj => ?_)
        · rw [show base + (o + idx * sz + fo) = base + o + idx * sz + fo by omega]; exact this
        · have hjl : j < sz := by have := lt_of_get hj; rw [(hf idx hidx).1] at this; exact this
          rw [show base + o + idx * sz + j = base + (o + (idx * sz + j)) by omega]
          refine hc _ _ ?_
          rw [← List.getElem?_drop, hd, List.append_nil, List.getElem?_append_left]
          · rw [flatMap_get (fun j hj => (hf j hj).1) idx j hidx hjl]; exact hj
          · rw [flatMap_length (fun j hj => (hf j hj).1)]
            have : (idx + 1) * sz ≤ n * sz := Nat.mul_le_mul_right _ hidx
            rw [Nat.succ_mul] at this; omega
      · cases h
  · exact loadS_ok h hv hc

theorem loadD_WF {P : Program} {h : Heap} {t : TypeId} {segs : List Seg} {o idx sz fo : Nat} {x : AC} (e : loadD P t segs o idx sz fo = some x) (hw : segsWF h segs) : acWF h x := by
  unfold loadD at e
  split at e
  · split at e
    · split at e
      · split at e
        · cases e; exact ⟨trivial, trivial⟩
        · cases e
      · cases e
    · cases e
  · split at e
    · exact loadE_WF e
    · cases e
  · exact loadS_WF e hw

/-! ### the evaluator's steps, taken back -/
section
variable {α β : Type}
theorem getK_inv {l : List α} {n : Nat} {K : α → Option β} {r : β} (h : getK l n none K = some r) : ∃ x, l[n]? = some x ∧ K x = some r := by
  induction l generalizing n with
  | nil => simp [getK] at h
  | cons y l ih =>
    cases n with
    | zero => exact ⟨y, rfl, h⟩
    | succ n => obtain ⟨x, h1, h2⟩ := ih (n := n) h; exact ⟨x, by simpa using h1, h2⟩

theorem setK_eq {l : List α} {n : Nat} {v : α} {K : List α → Option β} : setK l n v K = K (l.set n v) := by
  induction l generalizing n K with
  | nil => rfl
  | cons y l ih => cases n with
    | zero => rfl
    | succ n => simp [setK, ih]

theorem snocK_eq {l : List α} {x : α} {K : List α → Option β} : snocK l x K = K (l ++ [x]) := by
  induction l generalizing K with
  | nil => rfl
  | cons y l ih => simp [snocK, ih]

theorem mapK_eq {g : α → α} {l : List α} {K : List α → Option β} : mapK g l K = K (l.map g) := by
  induction l generalizing K with
  | nil => rfl
  | cons y l ih => simp [mapK, ih]

theorem optK_inv {o : Option α} {K : α → Option β} {r : β} (h : optK o K = some r) : ∃ x, o = some x ∧ K x = some r := by
  cases o with
  | none => simp [optK] at h
  | some x => exact ⟨x, rfl, h⟩

theorem ifK_inv {b : Bool} {x : Option β} {r : β} (h : ifK b x = some r) : b = true ∧ x = some r := by
  cases b with
  | false => simp [ifK] at h
  | true => exact ⟨rfl, h⟩

theorem cond_inv {b : Bool} {x y : Option β} {r : β} (h : cond b x y = some r) : (b = true ∧ x = some r) ∨ (b = false ∧ y = some r) := by
  cases b with
  | true => exact .inl ⟨rfl, h⟩
  | false => exact .inr ⟨rfl, h⟩
end

theorem loadK_inv {β : Type} {P : Program} {h : Heap} {t : TypeId} {a : AC} {K : AC → Option β} {r : β} (e : loadK P h t a K = some r) :
    ∃ x, K x = some r ∧ (heapWF h → acWF h a → acWF h x ∧ ∀ α w v, ACV α a v → Sat α h w → ∃ u, (Instr.loadAt t v).run P w = .ok u w ∧ ACV α x u) := by
  unfold loadK at e
  split at e
  · rename_i i off
    obtain ⟨b, hb, e⟩ := getK_inv e
    obtain ⟨x, hx, e⟩ := optK_inv e
    refine ⟨x, e, fun hw ha => ⟨loadS_WF hx (hw i b hb), fun α w v hv hs => ?_⟩⟩
    cases hv; rename_i hv; cases hv
    obtain ⟨vs, h1, h2⟩ := hs.cells hb
    obtain ⟨u, h3, h4⟩ := loadS_ok hx h1 h2
    exact ⟨u, by simpa [Instr.loadAt, Instr.sureAddr] using h3, h4⟩
  · rename_i i off idx sz fo
    obtain ⟨b, hb, e⟩ := getK_inv e
    obtain ⟨x, hx, e⟩ := optK_inv e
    refine ⟨x, e, fun hw ha => ⟨loadD_WF hx (hw i b hb), fun α w v hv hs => ?_⟩⟩
    cases hv; rename_i hv; cases hv
    obtain ⟨vs, h1, h2⟩ := hs.cells hb
    obtain ⟨b', hb', hn⟩ := ha.1
    rw [hb] at hb'; cases hb'
    obtain ⟨u, h3, h4⟩ := loadD_ok hx h1 hn h2
    exact ⟨u, by simpa [Instr.loadAt, Instr.sureAddr] using h3, h4⟩
  · cases e

/-! ### a store -/
theorem splice_get {l us : List Value} {o : Nat} (ho : o + us.length ≤ l.length) (j : Nat) :
    (l.take o ++ us ++ l.drop (o + us.length))[j]? = if j < o then l[j]? else if j < o + us.length then us[j - o]? else l[j]? := by
  rw [List.append_assoc]
  by_cases h1 : j < o
  · rw [if_pos h1, List.getElem?_append_left (by simp; omega), List.getElem?_take, if_pos h1]
  · rw [if_neg h1, List.getElem?_append_right (by simp; omega)]
    have : (l.take o).length = o := by simp; omega
    rw [this]
    by_cases h2 : j < o + us.length
    · rw [if_pos h2, List.getElem?_append_left (by omega)]
    · rw [if_neg h2, List.getElem?_append_right (by omega), List.getElem?_drop]
      congr 1; omega

/-- storing where nothing is frozen -/
theorem setRow_cells {w : World} {g : Nat} {c c' : Array Value} {t : TypeId} {fz : Nat × Nat} (hg : w.heap[g]? = some (.cells c t fz)) (hs : c'.size = c.size) {k : Nat} {c0 : Array Value} {t0 : TypeId} {fz0 : Nat × Nat} (hk : w.heap[k]? = some (.cells c0 t0 fz0)) :
    ∃ c1 : Array Value, (w.setRow g c').heap[k]? = some (.cells c1 t0 fz0) ∧ c1.size = c0.size := by
  by_cases h : k = g
  · subst h; rw [hg] at hk; cases hk; exact ⟨c', setRow_heap w k c _ t _ hg, hs⟩
  · exact ⟨c0, by rw [setRow_other _ _ _ _ h]; exact hk, rfl⟩

theorem run_storeCells_nf (P : Program) (g o : Nat) (t : TypeId) (fz : Nat × Nat) : ∀ (vs : List Value) (i : Nat) (cur : Array Value) (w : World), w.heap[g]? = some (.cells cur t fz) → (∀ j, o + i ≤ j → j < o + i + vs.length → ¬ (fz.1 ≤ j ∧ j < fz.2)) → o + i + vs.length ≤ cur.size → (∀ v ∈ vs, v.oneCell' = true) →
    (storeCells ⟨g, o, none⟩ vs i).run P w = .ok () (w.setRow g (cur.toList.take (o + i) ++ vs ++ cur.toList.drop (o + i + vs.length)).toArray)
  | [], i, cur, w, hg, _, _, _ => by
    simp only [storeCells, List.append_nil, List.length_nil, Nat.add_zero, List.take_append_drop, Array.toArray_toList]
    rw [setRow_self w g cur t fz hg]
    rfl
  | v :: rest, i, cur, w, hg, hf, hl, h1 => by
    have hi : o + i < cur.size := by simp at hl; omega
    have hadd : (⟨g, o, none⟩ : Addr).add i = ⟨g, o + i, none⟩ := by unfold Addr.add; split <;> simp_all
    have hcell : w.cell? ⟨g, o + i, none⟩ = some cur[o + i] := by simp [World.cell?, hg, hi]
    have hfro : w.frozen? ⟨g, o + i, none⟩ = false := by
      have := hf (o + i) (Nat.le_refl _) (by simp)
      simp only [World.frozen?, hg]
      simpa using this
    have hst : (store ((⟨g, o, none⟩ : Addr).add i) v).run P w = .ok () (w.setRow g (cur.setIfInBounds (o + i) v)) := by
      rw [hadd, run_store P w _ v _ (h1 v (by simp)), hcell]
      simp [hfro, setCell_eq_setRow w g (o + i) cur t fz v hg]
    have ih := run_storeCells_nf P g o t fz rest (i + 1) (cur.setIfInBounds (o + i) v) (w.setRow g (cur.setIfInBounds (o + i) v)) (setRow_heap w g cur _ t _ hg) (fun j h2 h3 => hf j (by omega) (by simp; omega)) (by simp at hl ⊢; omega) (fun x hx => h1 x (by simp [hx]))
    simp only [storeCells, Sem.run_bind, hst, Result.andThen_ok, ih, setRow_setRow]
    congr 3
    have e := list_seg_step cur.toList (o + i) v rest (by simp at hl ⊢; omega)
    simpa [Array.toList_setIfInBounds, Nat.add_assoc] using e

theorem store_run {P : Program} {α : Nat → Loc} {h : Heap} {w : World} (s : Sat α h w) {i : Nat} {b : Blk} (hb : h[i]? = some b) (hm : b.mu = true) {l' : List Seg} {us : List Value} {o : Nat}
    (h1 : ∀ u ∈ us, u.oneCell' = true) (hfit : Fit b.segs l')
    (hv : ∀ vs, SegsV α b.segs vs → SegsV α l' (vs.take o ++ us ++ vs.drop (o + us.length)) ∧ o + us.length ≤ vs.length) (hlv : l' ≠ [] → b.live) :
    ∃ w', (storeCells ⟨(α i).b, (α i).o + o, none⟩ us).run P w = .ok () w' ∧ Stp α h w α (h.set i { b with segs := l' }) w' ∧ Sat α (h.set i { b with segs := l' }) w' := by
  have hlen := lt_of_get hb
  have hget : ∀ j bj, (h.set i { b with segs := l' })[j]? = some bj → (j = i ∧ bj = { b with segs := l' }) ∨ (j ≠ i ∧ h[j]? = some bj) := fun j bj hj => by
    rw [List.getElem?_set] at hj
    split at hj
    · rename_i hij; subst hij; simp at hj; exact .inl ⟨rfl, hj.symm⟩
    · rename_i hij; exact .inr ⟨fun h => hij h.symm, hj⟩
  have hshape : ∀ (j : Nat) (bj : Blk), h[j]? = some bj → ∃ b', (h.set i { b with segs := l' })[j]? = some b' ∧ b'.mu = bj.mu ∧ b'.esz = bj.esz ∧ Fit bj.segs b'.segs ∧ (b'.live → bj.live) := fun j bj hj => by
    by_cases hij : i = j
    · subst hij; rw [hb] at hj; cases hj
      exact ⟨{ b with segs := l' }, by simp [hlen], rfl, rfl, hfit, hlv⟩
    · exact ⟨bj, by rw [List.getElem?_set_ne hij]; exact hj, rfl, rfl, .refl _, id⟩
  have hsep : ∀ (j k : Nat) (bj bk : Blk), (h.set i { b with segs := l' })[j]? = some bj → bj.mu = true → (α j).real = true → bj.live → (h.set i { b with segs := l' })[k]? = some bk → (α k).real = true → bk.live → (α j).b = (α k).b → j = k := by
    intro j k bj bk hj hjm hjr hjl hk hkr hkl he
    have g1 : ∃ b0, h[j]? = some b0 ∧ b0.mu = true ∧ b0.live := by
      rcases hget j bj hj with ⟨rfl, rfl⟩ | ⟨_, h0⟩
      · exact ⟨b, hb, hm, hlv hjl⟩
      · exact ⟨bj, h0, hjm, hjl⟩
    have g2 : ∃ b0, h[k]? = some b0 ∧ b0.live := by
      rcases hget k bk hk with ⟨rfl, rfl⟩ | ⟨_, h0⟩
      · exact ⟨b, hb, hlv hkl⟩
      · exact ⟨bk, h0, hkl⟩
    obtain ⟨b1, k1, k2, k2'⟩ := g1
    obtain ⟨b2, k3, k3'⟩ := g2
    exact s.sep j k b1 b2 k1 k2 hjr k2' k3 hkr k3' he
  have hnewb : ∀ (j : Nat) (bj : Blk), (h.set i { b with segs := l' })[j]? = some bj → bj.mu = true → (α j).real = true → bj.live → w.heap.size ≤ (α j).b ∨ ∃ k b', h[k]? = some b' ∧ b'.mu = true ∧ (α k).real = true ∧ b'.live ∧ (α k).b = (α j).b := by
    intro j bj hj hjm hjr hjl
    rcases hget j bj hj with ⟨rfl, rfl⟩ | ⟨_, h0⟩
    · exact .inr ⟨j, b, hb, hm, hjr, hlv hjl, rfl⟩
    · exact .inr ⟨j, bj, h0, hjm, hjr, hjl, rfl⟩
  have hfixd : ∀ (j : Nat) (bj : Blk), h[j]? = some bj → bj.mu = false → plainB bj.segs = true → (h.set i { b with segs := l' })[j]? = some bj := fun j bj hj hjm _ => by
    have : i ≠ j := fun e => by subst e; rw [hb] at hj; cases hj; rw [hm] at hjm; cases hjm
    rw [List.getElem?_set_ne this]; exact hj
  have k := s.blk i b hb
  cases hr : (α i).real with
  | true =>
    obtain ⟨c, t, fz, vs, e1, e2, e3, e4, e5⟩ := k.ex hr
    obtain ⟨e6, e7⟩ := hv vs e2
    have e4 := e4 hm
    have hcs : ∀ j v, vs[j]? = some v → (α i).o + j < c.size := fun j v hj => by
      have := e3 j v hj
      rcases Nat.lt_or_ge ((α i).o + j) c.size with h' | h'
      · exact h'
      · rw [Array.getElem?_eq_none h'] at this; cases this
    have hroom : us = [] ∨ (α i).o + o + us.length ≤ c.size := by
      cases us with
      | nil => exact .inl rfl
      | cons u us =>
        right
        have hl : o + us.length < vs.length := by simp at e7; omega
        have := hcs (o + us.length) _ (List.getElem?_eq_getElem hl)
        simp; omega
    rcases hroom with rfl | hroom
    · -- nothing is stored
      refine ⟨w, rfl, ⟨rfl, rfl, rfl, Nat.le_refl _, fun _ c _ _ hk => ⟨c, hk, rfl⟩, fun _ _ _ => rfl, fun _ _ => rfl, hshape, hnewb, hfixd⟩, ⟨fun j bj hj => ?_, hsep⟩⟩
      rcases hget j bj hj with ⟨rfl, rfl⟩ | ⟨_, h0⟩
      · refine ⟨fun _ => ⟨c, t, fz, vs, e1, ?_, e3, fun _ => e4, e5⟩, fun hr' => by rw [hr] at hr'; cases hr'⟩
        simpa using e6
      · exact s.blk j bj h0
    · have hne : us = [] ∨ b.live := by
        cases us with
        | nil => exact .inl rfl
        | cons u us =>
          right
          intro hb0
          rw [hb0] at e2; cases e2
          simp at e7
      rcases hne with rfl | hne
      · refine ⟨w, rfl, ⟨rfl, rfl, rfl, Nat.le_refl _, fun _ c _ _ hk => ⟨c, hk, rfl⟩, fun _ _ _ => rfl, fun _ _ => rfl, hshape, hnewb, hfixd⟩, ⟨fun j bj hj => ?_, hsep⟩⟩
        rcases hget j bj hj with ⟨rfl, rfl⟩ | ⟨_, h0⟩
        · refine ⟨fun _ => ⟨c, t, fz, vs, e1, ?_, e3, fun _ => e4, e5⟩, fun hr' => by rw [hr] at hr'; cases hr'⟩
          simpa using e6
        · exact s.blk j bj h0
      have hst := run_storeCells_nf P (α i).b ((α i).o + o) t fz us 0 c w e1 (fun j h2 h3 => e4 j (by omega)) (by omega) h1
      refine ⟨_, hst, ⟨rfl, rfl, rfl, by simp, fun k c0 t0 fz0 hk => setRow_cells e1 (by simp; omega) hk, fun k hk hn => ?_, fun _ _ => rfl, hshape, hnewb, hfixd⟩, ⟨fun j bj hj => ?_, hsep⟩⟩
      · exact setRow_other _ _ _ _ fun he => hn i b hb hm hr hne he.symm
      · rcases hget j bj hj with ⟨rfl, rfl⟩ | ⟨hne', h0⟩
        · refine ⟨fun _ => ⟨_, t, fz, _, setRow_heap w _ c _ t _ e1, e6, fun n v hn => ?_, fun _ => ?_, ?_⟩, fun hr' => by rw [hr] at hr'; cases hr'⟩
          · have hcl : (α j).o + o + 0 + us.length ≤ c.toList.length := by simpa using hroom
            have key := splice_get (l := c.toList) (us := us) (o := (α j).o + o + 0) hcl ((α j).o + n)
            rw [List.getElem?_toArray, key]
            rw [splice_get e7] at hn
            by_cases q1 : n < o
            · rw [if_pos q1] at hn; rw [if_pos (by omega)]; simpa using e3 n v hn
            · rw [if_neg q1] at hn; rw [if_neg (by omega)]
              by_cases q2 : n < o + us.length
              · rw [if_pos q2] at hn; rw [if_pos (by omega)]
                rw [show (α j).o + n - ((α j).o + o + 0) = n - o by omega]; exact hn
              · rw [if_neg q2] at hn; rw [if_neg (by omega)]; simpa using e3 n v hn
          · intro o' ho'
            refine e4 o' ?_
            simp at ho'
            omega
          · simp
            omega
        · by_cases hjr : (α j).real = true
          · by_cases hjl : bj.live
            · have hne2 : (α j).b ≠ (α i).b := fun he => hne' (s.sep i j b bj hb hm hr hne h0 hjr hjl he.symm).symm
              have kj := s.blk j bj h0
              refine ⟨fun _ => ?_, fun hr' => by rw [hjr] at hr'; cases hr'⟩
              obtain ⟨c', t', fz', vs', g1, g2⟩ := kj.ex hjr
              exact ⟨c', t', fz', vs', by rw [setRow_other _ _ _ _ hne2]; exact g1, g2⟩
            · have kj := s.blk j bj h0
              have hbs : bj.segs = [] := Decidable.not_not.1 hjl
              refine ⟨fun _ => ?_, fun hr' => by rw [hjr] at hr'; cases hr'⟩
              obtain ⟨c', t', fz', vs', g1, g2, g3, g4, g5⟩ := kj.ex hjr
              by_cases he : (α j).b = (α i).b
              · rw [he] at g1 ⊢
                rw [e1] at g1; cases g1
                refine ⟨_, t, fz, [], setRow_heap w _ c _ t _ e1, by rw [hbs]; exact .nil, fun j v hj => by simp at hj, fun hm' o' ho' => ?_, ?_⟩
                · refine g4 hm' o' ?_
                  simp at ho'
                  omega
                · simp
                  omega
              · exact ⟨c', t', fz', vs', by rw [setRow_other _ _ _ _ he]; exact g1, g2, g3, g4, g5⟩
          · have kj := s.blk j bj h0
            exact ⟨fun h' => absurd h' hjr, kj.nl⟩
  | false =>
    have hnil := k.nl hr
    obtain ⟨e6, e7⟩ := hv [] hnil
    have hus : us = [] := by
      cases us with
      | nil => rfl
      | cons u us => simp at e7
    subst hus
    refine ⟨w, rfl, ⟨rfl, rfl, rfl, Nat.le_refl _, fun _ c _ _ hk => ⟨c, hk, rfl⟩, fun _ _ _ => rfl, fun _ _ => rfl, hshape, hnewb, hfixd⟩, ⟨fun j bj hj => ?_, hsep⟩⟩
    rcases hget j bj hj with ⟨rfl, rfl⟩ | ⟨_, h0⟩
    · exact ⟨fun hr' => (by rw [hr] at hr'; cases hr'), fun _ => by simpa using e6⟩
    · exact s.blk j bj h0

theorem heapWF_set {h : Heap} {i : Nat} {b : Blk} {l' : List Seg} (hb : h[i]? = some b) (hw : heapWF h) (hl : segsWF h l') (hfit : Fit b.segs l') : heapWF (h.set i { b with segs := l' }) := by
  have hlen := lt_of_get hb
  have shape : ∀ (j : Nat) (bj : Blk), h[j]? = some bj → ∃ b', (h.set i { b with segs := l' })[j]? = some b' ∧ b'.esz = bj.esz ∧ Fit bj.segs b'.segs := fun j bj hj => by
    by_cases hij : i = j
    · subst hij; rw [hb] at hj; cases hj
      exact ⟨{ b with segs := l' }, by simp [hlen], rfl, hfit⟩
    · exact ⟨bj, by rw [List.getElem?_set_ne hij]; exact hj, rfl, .refl _⟩
  intro j bj hj
  rw [List.getElem?_set] at hj
  split at hj
  · rename_i hij; subst hij; simp at hj; subst hj; exact segsWF_shape shape (by simp) hl
  · exact segsWF_shape shape (by simp) (hw j bj hj)

end Ev

namespace Ev
open Go

/-! ## The program's own facts, and the package variables -/
/-- a zero value's cells are the evaluator's -/
def ZeroOk (P : Program) : Prop := ∀ t z, zeroA P t = some z → ∃ i v, P.info? t = some i ∧ i.zero = some v ∧ ∀ α, ACV α z v

structure ProgOk (P : Program) : Prop where
  zero : ZeroOk P
  names : ∀ (f : Nat) (fn : Func), P.funcs[f]? = some fn → fn.body.isSome = true → (fn.name == "runtime.NumGoroutine") = false
  mixed : P.follows .mixedOrders = true

def Glob (C : Cfg) (α : Nat → Loc) (h : Heap) : Prop :=
  ∀ g i, posN C.glob g = some i → ∃ b, h[i]? = some b ∧ b.mu = false ∧ (α i).b = g ∧ (α i).o = 0 ∧ ∀ l, C.tabs[i]? = some l → b = ⟨false, 0, l⟩ ∧ plainB l = true

theorem Glob.step {C : Cfg} {α α' : Nat → Loc} {h h' : Heap} {w w' : World} (s : Stp α h w α' h' w') (g : Glob C α h) : Glob C α' h' := by
  intro g' i hi
  obtain ⟨b, h1, h2, h3, h4, h5⟩ := g g' i hi
  obtain ⟨b', k1, k2, _, _⟩ := s.shape i b h1
  have e := s.al i (lt_of_get h1)
  exact ⟨b', k1, k2.trans h2, by rw [e]; exact h3, by rw [e]; exact h4, fun l hl => by
    obtain ⟨h6, h7⟩ := h5 l hl
    have := s.fixd i b h1 h2 (by rw [h6]; exact h7)
    rw [k1] at this; cases this
    exact ⟨h6, h7⟩⟩

/-! ## Operands -/
structure Hyp (C : Cfg) (xs : List Operand) (fr : Fr) (h : Heap) (α : Nat → Loc) (w : World) (a : Act) : Prop where
  slot : ∀ t, Operand.tmp t ∈ xs → ∀ av, fr[t]? = some av → ∃ v, a.tmps[t]? = some v ∧ AVV α av v
  wf : ∀ t, Operand.tmp t ∈ xs → ∀ av, fr[t]? = some av → avWF h av
  hwf : heapWF h
  gl : Glob C α h
  sat : Sat α h w

/-- what an operand is, abstractly -/
def Ev1 (C : Cfg) (fr : Fr) (x : Operand) (av : AV) : Prop :=
  match x with
  | .tmp t => fr[t]? = some av
  | .const v => ∃ y, constA v = some y ∧ av = .ac y
  | .global g => ∃ i, posN C.glob g = some i ∧ av = .ac (.one (.ptr i 0))
  | .func f => av = .ac (.one (.fn f []))

theorem evalK_inv {β : Type} {C : Cfg} {fr : Fr} {x : Operand} {K : AV → Option β} {r : β} (h : evalK C fr x K = some r) : ∃ av, Ev1 C fr x av ∧ K av = some r := by
  cases x with
  | tmp t => exact getK_inv h
  | const v => obtain ⟨y, h1, h2⟩ := optK_inv h; exact ⟨_, ⟨y, h1, rfl⟩, h2⟩
  | global g => obtain ⟨i, h1, h2⟩ := optK_inv h; exact ⟨_, ⟨i, h1, rfl⟩, h2⟩
  | func f => exact ⟨_, rfl, h⟩

theorem evalC_inv {β : Type} {C : Cfg} {fr : Fr} {x : Operand} {K : AC → Option β} {r : β} (h : evalC C fr x K = some r) : ∃ y, Ev1 C fr x (.ac y) ∧ K y = some r := by
  obtain ⟨av, h1, h2⟩ := evalK_inv h
  split at h2
  · rename_i y; exact ⟨y, h1, h2⟩
  · cases h2

theorem oneB_eq (v : Value) : oneB v = v.oneCell' := by cases v <;> rfl

theorem allB_ok {α : Type} {p : α → Bool} : ∀ {l : List α}, allB p l = true → ∀ x ∈ l, p x = true
  | [], _, x, hx => by cases hx
  | y :: l, h, x, hx => by
    simp only [allB] at h
    split at h
    · rename_i hy
      rcases List.mem_cons.1 hx with rfl | hx
      · exact hy
      · exact allB_ok h x hx
    · cases h

theorem constA_ok {v : Value} {y : AC} (h : constA v = some y) (α : Nat → Loc) (hp : Heap) : ACV α y v ∧ acWF hp y := by
  unfold constA at h
  split at h
  · rename_i cs
    split at h
    · rename_i hall
      cases h
      refine ⟨?_, valsWF⟩
      have := ACV.agg (α := α) (valsV (l := cs.toList) fun u hu => by rw [← oneB_eq]; exact allB_ok hall u hu)
      simpa using this
    · cases h
  · cases h
  · rename_i h1 h2
    cases h
    refine ⟨.one (.val _ ?_), trivial, trivial⟩
    cases v <;> first | rfl | (exact absurd rfl (h1 _)) | (exact absurd rfl (h2 _))

theorem Ev1.ok {C : Cfg} {xs : List Operand} {fr : Fr} {h : Heap} {α : Nat → Loc} {w : World} {a : Act} (H : Hyp C xs fr h α w a) {x : Operand} {av : AV} (e : Ev1 C fr x av) (hx : x ∈ xs) :
    AVV α av (a.eval x) ∧ avWF h av := by
  cases x with
  | tmp t =>
    obtain ⟨v, h1, h2⟩ := H.slot t hx av e
    refine ⟨?_, H.wf t hx av e⟩
    have : a.eval (.tmp t) = v := by simp [Act.eval, h1]
    rw [this]; exact h2
  | const v =>
    obtain ⟨y, h1, rfl⟩ := e
    obtain ⟨h2, h3⟩ := constA_ok h1 α h
    exact ⟨.ac h2, h3⟩
  | global g =>
    obtain ⟨i, h1, rfl⟩ := e
    obtain ⟨b, k1, k2, k3, k4, _⟩ := H.gl g i h1
    refine ⟨.ac (.one ?_), lt_of_get k1, trivial⟩
    have : a.eval (.global g) = .pointer (some ⟨(α i).b, (α i).o + 0, none⟩) := by simp [Act.eval, k3, k4]
    rw [this]; exact .ptr i 0
  | func f =>
    cases e
    exact ⟨.ac (.one (.fn f [] [] .nil)), trivial, trivial⟩

theorem Ev1.okC {C : Cfg} {xs : List Operand} {fr : Fr} {h : Heap} {α : Nat → Loc} {w : World} {a : Act} (H : Hyp C xs fr h α w a) {x : Operand} {y : AC} (e : Ev1 C fr x (.ac y)) (hx : x ∈ xs) :
    ACV α y (a.eval x) ∧ acWF h y := by
  obtain ⟨h1, h2⟩ := e.ok H hx
  cases h1 with | ac h1 => exact ⟨h1, h2⟩

/-! ## One operation -/
/-- what the evaluator's result of an operation says of every world -/
structure OpS (C : Cfg) (o : Oper) (fr : Fr) (h : Heap) (x : AV) (h' : Heap) (ws : List Nat) (l : Bool) : Prop where
  wr : ∀ i, i ∉ ws → i < h.length → h'[i]? = h[i]?
  quiet : l = false → h' = h
  len : h.length ≤ h'.length
  run : ∀ α w a, Hyp C o.op.operands.toList fr h α w a → ∀ (next : Act → World → Prop) (Q : Exit → Act → World → Prop),
    (∀ α' w' v, Stp α h w α' h' w' → Sat α' h' w' → AVV α' x v → avWF h' x → heapWF h' → next (a.put o.dst v) w') → o.wp C.P a w next Q

theorem OpS.pure {C : Cfg} {o : Oper} {fr : Fr} {h : Heap} {x : AV}
    (k : ∀ α w a, Hyp C o.op.operands.toList fr h α w a → ∃ v, (execOp a.eval o).run C.P w = .ok (.value v) w ∧ AVV α x v ∧ avWF h x) : OpS C o fr h x h [] false where
  wr := fun _ _ _ => rfl
  quiet := fun _ => rfl
  len := Nat.le_refl _
  run := fun α w a H next Q hn => by
    obtain ⟨v, h1, h2, h3⟩ := k α w a H
    unfold Oper.wp
    rw [h1]
    exact hn α w v (.refl _ _ _) H.sat h2 h3 H.hwf

theorem OpS.pureC {C : Cfg} {o : Oper} {fr : Fr} {h : Heap} {x : AC}
    (k : ∀ α w a, Hyp C o.op.operands.toList fr h α w a → ∃ v, (execOp a.eval o).run C.P w = .ok (.value v) w ∧ ACV α x v ∧ acWF h x) : OpS C o fr h (.ac x) h [] false :=
  .pure fun α w a H => let ⟨v, h1, h2, h3⟩ := k α w a H; ⟨v, h1, .ac h2, h3⟩

/-- an operation that changes the world -/
theorem OpS.loud {C : Cfg} {o : Oper} {fr : Fr} {h h' : Heap} {x : AV} {ws : List Nat} (hw : ∀ i, i ∉ ws → i < h.length → h'[i]? = h[i]?) (hlen : h.length ≤ h'.length)
    (k : ∀ α w a, Hyp C o.op.operands.toList fr h α w a → ∃ α' w' v, (execOp a.eval o).run C.P w = .ok (.value v) w' ∧ Stp α h w α' h' w' ∧ Sat α' h' w' ∧ AVV α' x v ∧ avWF h' x ∧ heapWF h') : OpS C o fr h x h' ws true where
  wr := hw
  quiet := fun hl => by cases hl
  len := hlen
  run := fun α w a H next Q hn => by
    obtain ⟨α', w', v, h1, h2, h3, h4, h5, h6⟩ := k α w a H
    unfold Oper.wp
    rw [h1]
    exact hn α' w' v h2 h3 h4 h5 h6

/-! ### new blocks -/
def newLoc (α : Nat → Loc) (n : Nat) (l : Loc) : Nat → Loc := fun j => if j = n then l else α j

theorem newLoc_old {α : Nat → Loc} {n : Nat} {l : Loc} {j : Nat} (hj : j < n) : newLoc α n l j = α j := by unfold newLoc; rw [if_neg (by omega)]
theorem newLoc_new {α : Nat → Loc} {n : Nat} {l : Loc} : newLoc α n l n = l := by simp [newLoc]

theorem heap_alloc_old {w : World} {o : Obj} {k : Nat} (hk : k < w.heap.size) : (w.alloc o).heap[k]? = w.heap[k]? := by
  show (w.heap.push o)[k]? = _
  rw [Array.getElem?_push, if_neg (by omega)]

theorem heap_alloc_new (w : World) (o : Obj) : (w.alloc o).heap[w.heap.size]? = some o := by
  show (w.heap.push o)[w.heap.size]? = _
  simp

theorem snoc_get {h : Heap} {b0 : Blk} {i : Nat} {b : Blk} (hb : (h ++ [b0])[i]? = some b) : (i < h.length ∧ h[i]? = some b) ∨ (i = h.length ∧ b = b0) := by
  rcases Nat.lt_or_ge i h.length with hi | hi
  · rw [List.getElem?_append_left hi] at hb; exact .inl ⟨hi, hb⟩
  · rw [List.getElem?_append_right hi] at hb
    have hi' : i = h.length := by have := lt_of_get hb; simp at this; omega
    subst hi'; simp at hb; exact .inr ⟨rfl, hb.symm⟩

theorem snoc_old {α : Type} {h : List α} {b : α} (i : Nat) (x : α) (hx : h[i]? = some x) : (h ++ [b])[i]? = some x := by
  rw [List.getElem?_append_left (lt_of_get hx)]; exact hx

theorem snoc_shape {h : Heap} {b0 : Blk} : ∀ (i : Nat) (b : Blk), h[i]? = some b → ∃ b', (h ++ [b0])[i]? = some b' ∧ b'.esz = b.esz ∧ Fit b.segs b'.segs :=
  fun i b hb => ⟨b, snoc_old i b hb, rfl, .refl _⟩

theorem heapWF_snoc {h : Heap} {b : Blk} (hw : heapWF h) (hb : segsWF h b.segs) : heapWF (h ++ [b]) := by
  intro i bi hi
  rcases snoc_get hi with ⟨hl, h0⟩ | ⟨rfl, rfl⟩
  · exact segsWF_shape snoc_shape (by simp) (hw i bi h0)
  · exact segsWF_shape snoc_shape (by simp) hb

/-- a new block, in a new object -/
theorem alloc_step {α : Nat → Loc} {h : Heap} {w : World} (s : Sat α h w) (hw : heapWF h) {segs : List Seg} {vs : List Value} {c : Array Value} {t : TypeId} {cap esz : Nat} {fz : Nat × Nat}
    (hv : SegsV α segs vs) (hs : segsWF h segs) (hc : ∀ (j : Nat) (v : Value), vs[j]? = some v → c[j]? = some v) (hcap : cap * esz ≤ c.size) (hfz : ∀ o, o < c.size → ¬ (fz.1 ≤ o ∧ o < fz.2)) :
    Stp α h w (newLoc α h.length ⟨w.heap.size, 0, cap, true⟩) (h ++ [⟨true, esz, segs⟩]) (w.alloc (.cells c t fz)) ∧ Sat (newLoc α h.length ⟨w.heap.size, 0, cap, true⟩) (h ++ [⟨true, esz, segs⟩]) (w.alloc (.cells c t fz)) := by
  have hα : ∀ i, i < h.length → newLoc α h.length ⟨w.heap.size, 0, cap, true⟩ i = α i := fun i hi => newLoc_old hi
  have hblk : ∀ i b, h[i]? = some b → (α i).real = true → (α i).b < w.heap.size := fun i b hb hr => by
    obtain ⟨c, t, fz, vs, h1, _⟩ := (s.blk i b hb).ex hr
    exact World.size_lt_of_heap h1
  refine ⟨⟨rfl, rfl, rfl, by simp, fun k c0 t0 fz0 hk => ⟨c0, by rw [heap_alloc_old (World.size_lt_of_heap hk)]; exact hk, rfl⟩, fun k hk _ => heap_alloc_old hk, fun i hi => hα i hi, fun i b hb => ⟨b, snoc_old i b hb, rfl, rfl, .refl _, id⟩, fun i b hb hm hr hl => ?_, fun i b hb _ _ => snoc_old i b hb⟩, ⟨fun i b hb => ?_, fun i j b b' hb hm hr hl hb' hr' hl' he => ?_⟩⟩
  · rcases snoc_get hb with ⟨hi, h0⟩ | ⟨rfl, rfl⟩
    · rw [hα i hi] at hr ⊢; exact .inr ⟨i, b, h0, hm, hr, hl, rfl⟩
    · rw [newLoc_new]; exact .inl (Nat.le_refl _)
  · rcases snoc_get hb with ⟨hi, h0⟩ | ⟨rfl, rfl⟩
    · have k := s.blk i b h0
      refine ⟨fun hr => ?_, fun hr => ?_⟩
      · rw [hα i hi] at hr ⊢
        obtain ⟨c', t', fz', vs', g1, g2, g3, g4, g5⟩ := k.ex hr
        exact ⟨c', t', fz', vs', by rw [heap_alloc_old (World.size_lt_of_heap g1)]; exact g1, g2.agree hα (hw i b h0), g3, g4, g5⟩
      · rw [hα i hi] at hr; exact (k.nl hr).agree hα (hw i b h0)
    · refine ⟨fun _ => ⟨c, t, fz, vs, ?_, hv.agree hα hs, ?_, fun _ => hfz, ?_⟩, fun hr => ?_⟩
      · rw [newLoc_new]; exact heap_alloc_new w _
      · rw [newLoc_new]; simpa using hc
      · rw [newLoc_new]; simpa using hcap
      · rw [newLoc_new] at hr; cases hr
  · rcases snoc_get hb with ⟨hi, h0⟩ | ⟨rfl, rfl⟩ <;> rcases snoc_get hb' with ⟨hj, h0'⟩ | ⟨rfl, rfl⟩
    · rw [hα i hi] at hr he; rw [hα j hj] at hr' he; exact s.sep i j b b' h0 hm hr hl h0' hr' hl' he
    · rw [hα i hi] at hr he; rw [newLoc_new] at he
      have := hblk i b h0 hr; rw [he] at this; simp at this
    · rw [hα j hj] at hr' he; rw [newLoc_new] at he
      have := hblk j b' h0' hr'; rw [← he] at this; simp at this
    · rfl

theorem ACV.cells {α : Nat → Loc} {x : AC} {v : Value} (h : ACV α x v) : SegsV α x.segs v.cells.toList := by
  cases h with
  | one h =>
    have : v.cells = #[v] := by have := h.one; cases v <;> first | rfl | cases this
    rw [this]; exact .c h .nil
  | agg h => simpa [Value.cells, AC.segs] using h

theorem newK_ok {β : Type} {C : Cfg} {o : Oper} {fr : Fr} {h : Heap} {z : AC} {K : KR β} {r : β} (e : newK h z K = some r)
    (k : ∀ α w a, Hyp C o.op.operands.toList fr h α w a → ∃ t v, (execOp a.eval o).run C.P w = .ok (.value (.pointer (some ⟨w.heap.size, 0, none⟩))) (w.alloc (.cells v.cells t)) ∧ ACV α z v ∧ acWF h z) :
    ∃ x h' ws l, K x h' ws l = some r ∧ OpS C o fr h x h' ws l := by
  unfold newK addBlk at e
  rw [snocK_eq] at e
  refine ⟨_, _, _, _, e, .loud (fun i _ hi => by rw [List.getElem?_append_left hi]) (by simp) fun α w a H => ?_⟩
  obtain ⟨t, v, h1, h2, h3⟩ := k α w a H
  obtain ⟨s1, s2⟩ := alloc_step (t := t) (cap := 0) (esz := 0) (c := v.cells) (fz := (0, 0)) H.sat H.hwf h2.cells h3 (fun j u hj => by simpa using hj) (by simp) (fun o ho => by simp)
  refine ⟨_, _, _, h1, s1, s2, .ac (.one ?_), ⟨?_, trivial⟩, heapWF_snoc H.hwf h3⟩
  · have := V.ptr (α := newLoc α h.length ⟨w.heap.size, 0, 0, true⟩) h.length 0
    rw [newLoc_new] at this; exact this
  · show h.length < _; simp

end Ev

namespace Ev
open Go

/-! ## Stores -/
theorem splice_in {vs a b us : List Value} {o i : Nat} (hd : vs.drop o = a ++ b) (ha : i + us.length ≤ a.length) (hpos : 0 < us.length) :
    vs.take o ++ (a.take i ++ us ++ a.drop (i + us.length)) ++ vs.drop (o + a.length) = vs.take (o + i) ++ us ++ vs.drop (o + i + us.length) ∧ o + i + us.length ≤ vs.length := by
  have ho : o ≤ vs.length := by
    rcases Nat.lt_or_ge vs.length o with h | h
    · rw [List.drop_of_length_le (by omega)] at hd
      have := congrArg List.length hd; simp at this; omega
    · exact h
  have hl : vs.length = o + a.length + b.length := by have := congrArg List.length hd; simp at this; omega
  have hb : vs.drop (o + a.length) = b := by rw [← List.drop_drop, hd]; simp
  have hv : vs = vs.take o ++ (a ++ b) := by rw [← hd]; simp
  have htl : (vs.take o).length = o := by simp; omega
  refine ⟨?_, by omega⟩
  rw [hb]
  have e1 : vs.take (o + i) = vs.take o ++ a.take i := by
    conv => lhs; rw [hv]
    rw [List.take_append, List.take_of_length_le (by omega), htl, List.take_append]
    simp [show i - a.length = 0 by omega]
  have e2 : vs.drop (o + i + us.length) = a.drop (i + us.length) ++ b := by
    conv => lhs; rw [hv]
    rw [List.drop_append, List.drop_of_length_le (by omega), htl, List.drop_append]
    simp [show o + i + us.length - o = i + us.length by omega, show i + us.length - a.length = 0 by omega]
  rw [e1, e2]
  simp [List.append_assoc]

theorem set_splice {l : List Value} {o : Nat} {v : Value} (h : o < l.length) : l.set o v = l.take o ++ [v] ++ l.drop (o + 1) := by
  rw [List.set_eq_take_append_cons_drop, if_pos h]; simp

theorem storeS_ok {α : Nat → Loc} {segs l : List Seg} {o : Nat} {y : AC} {v : Value} (e : storeS segs o y = some l) (hy : ACV α y v) {vs : List Value} (hv : SegsV α segs vs) :
    SegsV α l (vs.take o ++ v.cells.toList ++ vs.drop (o + v.cells.toList.length)) ∧ o + v.cells.toList.length ≤ vs.length := by
  have hc := hy.cells
  cases hy with
  | one h =>
    obtain ⟨h1, h2⟩ := putCell_ok e hv h
    have : v.cells = #[v] := by have := h.one; cases v <;> first | rfl | cases this
    rw [this]
    refine ⟨?_, by simp; omega⟩
    rw [set_splice h2] at h1
    simpa using h1
  | agg h => exact putSegs_ok e hv hc

theorem storeS_fit {segs l : List Seg} {o : Nat} {y : AC} (e : storeS segs o y = some l) : Fit segs l := by
  cases y with
  | one x => exact putCell_fit e
  | agg m => exact putSegs_fit e

theorem storeS_WF {h : Heap} {segs l : List Seg} {o : Nat} {y : AC} (e : storeS segs o y = some l) (hw : segsWF h segs) (hy : acWF h y) : segsWF h l := by
  cases y with
  | one x => exact putCell_WF e hw hy.1
  | agg m => exact putSegs_WF e hw hy

theorem valsOf_ok {α : Nat → Loc} : ∀ {l : List Seg} {xs vs : List Value}, valsOf l = some xs → SegsV α l vs → xs = vs
  | [], xs, vs, h, hv => by cases h; cases hv; rfl
  | .c (.val u) :: l, xs, vs, h, hv => by
    simp only [valsOf] at h
    split at h
    · rename_i r hr
      cases h
      cases hv with
      | c h1 h2 => cases h1; rw [valsOf_ok hr h2]
    · cases h
  | .c .bad :: l, xs, vs, h, hv => by simp [valsOf] at h
  | .c (.ptr _ _) :: l, xs, vs, h, hv => by simp [valsOf] at h
  | .c (.dptr _ _ _ _ _) :: l, xs, vs, h, hv => by simp [valsOf] at h
  | .c (.gs _ _ _ _) :: l, xs, vs, h, hv => by simp [valsOf] at h
  | .c (.sl _ _ _ _ _ _) :: l, xs, vs, h, hv => by simp [valsOf] at h
  | .c (.fn _ _) :: l, xs, vs, h, hv => by simp [valsOf] at h
  | .c (.ifc _ _) :: l, xs, vs, h, hv => by simp [valsOf] at h
  | .ri _ _ _ :: l, xs, vs, h, hv => by simp [valsOf] at h
  | .r _ _ _ :: l, xs, vs, h, hv => by simp [valsOf] at h

theorem setVs_eq : ∀ {l : List Value} {o : Nat} {xs : List Value}, o + xs.length ≤ l.length → setVs l o xs = l.take o ++ xs ++ l.drop (o + xs.length)
  | l, o, [], _ => by cases l <;> simp [setVs]
  | [], o, x :: xs, h => by simp at h
  | y :: l, 0, x :: xs, h => by
    simp only [setVs]
    rw [setVs_eq (by simp at h ⊢; omega)]
    simp
  | y :: l, o + 1, x :: xs, h => by
    simp only [setVs]
    rw [setVs_eq (by simp at h ⊢; omega), show o + 1 + (x :: xs).length = o + (x :: xs).length + 1 by omega]
    simp

theorem flatMap_upd {n sz : Nat} {f : Nat → List Value} (hf : ∀ j, j < n → (f j).length = sz) {i : Nat} (hi : i < n) {e : List Value} (he : e.length = sz) :
    (List.range n).flatMap (upd f i e) = ((List.range n).flatMap f).take (i * sz) ++ e ++ ((List.range n).flatMap f).drop (i * sz + sz) := by
  have hu : ∀ j, j < n → (upd f i e j).length = sz := fun j hj => by
    unfold upd
    cases hb : j.beq i with
    | true => simpa using he
    | false => simpa using hf j hj
  have hl := flatMap_length hf
  have hlu := flatMap_length hu
  have hroom : i * sz + e.length ≤ ((List.range n).flatMap f).length := by
    have : (i + 1) * sz ≤ n * sz := Nat.mul_le_mul_right _ hi
    rw [Nat.succ_mul] at this; rw [hl, he]; omega
  have e0 : i * sz + sz = i * sz + e.length := by omega
  rw [e0]
  apply List.ext_getElem?
  intro q
  rw [splice_get hroom]
  rcases Nat.eq_zero_or_pos sz with h0 | h0
  · subst h0
    have z1 : (List.range n).flatMap (upd f i e) = [] := List.eq_nil_of_length_eq_zero (by rw [hlu]; simp)
    have z2 : (List.range n).flatMap f = [] := List.eq_nil_of_length_eq_zero (by rw [hl]; simp)
    have z3 : e = [] := List.eq_nil_of_length_eq_zero he
    rw [z1, z2, z3]; simp
  · rcases Nat.lt_or_ge q (n * sz) with hq | hq
    · have hdiv : q / sz < n := (Nat.div_lt_iff_lt_mul h0).2 hq
      have hmod : q % sz < sz := Nat.mod_lt _ h0
      have hqe : q = (q / sz) * sz + q % sz := by rw [Nat.mul_comm]; exact (Nat.div_add_mod q sz).symm
      have g1 : ((List.range n).flatMap (upd f i e))[q]? = (upd f i e (q / sz))[q % sz]? := by
        have := flatMap_get hu (q / sz) (q % sz) hdiv hmod
        rwa [← hqe] at this
      have g2 : ((List.range n).flatMap f)[q]? = (f (q / sz))[q % sz]? := by
        have := flatMap_get hf (q / sz) (q % sz) hdiv hmod
        rwa [← hqe] at this
      rw [g1, g2]
      generalize hQ : q / sz = Q at *
      generalize hR : q % sz = R at *
      by_cases c1 : q < i * sz
      · rw [if_pos c1]
        have : Q ≠ i := fun e => by subst e; omega
        have hb : Q.beq i = false := by
          cases hb : Q.beq i with
          | false => rfl
          | true => exact absurd (Nat.eq_of_beq_eq_true hb) this
        simp [upd, hb]
      · rw [if_neg c1]
        by_cases c2 : q < i * sz + e.length
        · rw [if_pos c2]
          have : Q = i := by
            rcases Nat.lt_trichotomy Q i with h | h | h
            · exfalso
              have : (Q + 1) * sz ≤ i * sz := Nat.mul_le_mul_right _ h
              rw [Nat.succ_mul] at this; omega
            · exact h
            · exfalso
              have : (i + 1) * sz ≤ Q * sz := Nat.mul_le_mul_right _ h
              rw [Nat.succ_mul] at this; omega
          subst this
          have e0 : q - Q * sz = R := by omega
          rw [e0]
          simp [upd]
        · rw [if_neg c2]
          have : Q ≠ i := fun e => by subst e; omega
          have hb : Q.beq i = false := by
            cases hb : Q.beq i with
            | false => rfl
            | true => exact absurd (Nat.eq_of_beq_eq_true hb) this
          simp [upd, hb]
    · have c1 : ¬ q < i * sz := by have := hroom; rw [hl] at this; omega
      have c2 : ¬ q < i * sz + e.length := by have := hroom; rw [hl] at this; omega
      rw [if_neg c1, if_neg c2, List.getElem?_eq_none (by rw [hlu]; exact hq), List.getElem?_eq_none (by rw [hl]; exact hq)]

theorem storeD_ok {α : Nat → Loc} {segs l : List Seg} {o idx sz fo : Nat} {y : AC} {v : Value} (e : storeD segs o idx sz fo y = some l) (hy : ACV α y v) (hn : ∀ n, arrLen segs o = some n → idx < n)
    (hne : v.cells.toList ≠ []) {vs : List Value} (hv : SegsV α segs vs) :
    SegsV α l (vs.take (o + idx * sz + fo) ++ v.cells.toList ++ vs.drop (o + idx * sz + fo + v.cells.toList.length)) ∧ o + idx * sz + fo + v.cells.toList.length ≤ vs.length := by
  unfold storeD at e
  split at e
  · rename_i n k f hs
    have hidx := hn n (by simp [arrLen, hs])
    split at e
    · rename_i k' x
      split at e
      · rename_i hsz
        split at e
        · rename_i hfo
          split at e
          · rename_i hk
            have hsz := Nat.eq_of_beq_eq_true hsz
            have hfo := Nat.eq_of_beq_eq_true hfo
            subst hsz hfo hk
            cases hy; rename_i hy; cases hy
            obtain ⟨a, b, ha, hl, hd⟩ := segAt_ok hs hv
            cases ha with
            | ri hnil =>
              cases hnil
              have hset := putAt_ok e hs hv (a' := ((List.range n).map fun j => Value.int k (upd f idx x j)) ++ []) (.ri .nil) (by simp [Seg.len])
              rw [List.append_nil, upd_map, set_splice (by simpa using hidx)] at hset
              have := splice_in (us := [Value.int k x]) (i := idx) hd (by simp; omega) (by simp)
              simp only [List.length_singleton] at this
              have e2 : ((List.range n).map (fun j => Value.int k (f j)) ++ []).length = n := by simp
              rw [e2, List.append_nil] at this
              have e3 : (Value.int k x).cells.toList = [Value.int k x] := rfl
              rw [e3, Nat.mul_one, Nat.add_zero]
              simp only [List.length_singleton]
              refine ⟨?_, this.2⟩
              rw [← this.1]
              exact hset
          · cases e
        · cases e
      · cases e
    · cases e
  · rename_i n sz' f hs
    have hidx := hn n (by simp [arrLen, hs])
    split at e
    · rename_i hsz
      have hsz := Nat.eq_of_beq_eq_true hsz
      subst hsz
      split at e
      · rename_i xs hxs
        have hxs := valsOf_ok hxs hy.cells
        subst hxs
        split at e
        · rename_i hfo
          have hfo := Nat.le_of_ble_eq_true hfo
          obtain ⟨a, b, ha, hl, hd⟩ := segAt_ok hs hv
          cases ha with
          | r hf hnil =>
            cases hnil
            have hlen : (f idx).length = sz := (hf idx hidx).1
            have h1 : ∀ u ∈ v.cells.toList, u.oneCell' = true := hy.cells.one
            have hE : setVs (f idx) fo v.cells.toList = (f idx).take fo ++ v.cells.toList ++ (f idx).drop (fo + v.cells.toList.length) := setVs_eq (by rw [hlen]; exact hfo)
            have hEl : (setVs (f idx) fo v.cells.toList).length = sz := by
              rw [hE]; simp only [List.length_append, List.length_take, List.length_drop, hlen]; omega
            have hnew : ∀ j, j < n → (upd f idx (setVs (f idx) fo v.cells.toList) j).length = sz ∧ ∀ u ∈ upd f idx (setVs (f idx) fo v.cells.toList) j, u.oneCell' = true := fun j hj => by
              unfold upd
              cases hb : j.beq idx with
              | false => simpa using hf j hj
              | true =>
                refine ⟨by simpa using hEl, fun u hu => ?_⟩
                simp only [cond_true] at hu
                rw [hE] at hu
                rcases List.mem_append.1 hu with hu | hu
                · rcases List.mem_append.1 hu with hu | hu
                  · exact (hf idx hidx).2 u (List.mem_of_mem_take hu)
                  · exact h1 u hu
                · exact (hf idx hidx).2 u (List.mem_of_mem_drop hu)
            have hset := putAt_ok e hs hv (SegsV.r hnew .nil) (by rw [List.append_nil, flatMap_length (fun j hj => (hnew j hj).1)]; rfl)
            rw [List.append_nil, flatMap_upd (fun j hj => (hf j hj).1) hidx hEl, hE] at hset
            have hfl := flatMap_length (fun j hj => (hf j hj).1)
            have hroom : (idx + 1) * sz ≤ n * sz := Nat.mul_le_mul_right _ hidx
            rw [Nat.succ_mul] at hroom
            have hpos : 0 < v.cells.toList.length := List.length_pos_iff.2 hne
            have e2 : ((List.range n).flatMap f ++ []).length = n * sz := by simp [hfl]
            -- the row within the flat list
            have hrow : ((List.range n).flatMap f).drop (idx * sz) = f idx ++ ((List.range n).flatMap f).drop (idx * sz + sz) := by
              apply List.ext_getElem?
              intro q
              rw [List.getElem?_drop]
              rcases Nat.lt_or_ge q sz with hq | hq
              · rw [List.getElem?_append_left (by omega), flatMap_get (fun j hj => (hf j hj).1) idx q hidx hq]
              · rw [List.getElem?_append_right (by omega), List.getElem?_drop]
                congr 1; omega
            have s1 := splice_in (us := v.cells.toList) (i := fo) hrow (by omega) hpos
            rw [hlen] at s1
            have s2 := splice_in (us := v.cells.toList) (i := idx * sz + fo) hd (by rw [e2]; omega) hpos
            rw [e2, List.append_nil] at s2
            refine ⟨?_, by have := s2.2; omega⟩
            have s21 := s2.1
            rw [← s1.1] at s21
            rw [show o + (idx * sz + fo) = o + idx * sz + fo by omega] at s21
            rw [← s21]
            exact hset
        · cases e
      · cases e
    · cases e
  · exact storeS_ok e hy hv

theorem storeD_fit {segs l : List Seg} {o idx sz fo : Nat} {y : AC} (e : storeD segs o idx sz fo y = some l) : Fit segs l := by
  unfold storeD at e
  split at e
  · rename_i n k f hs
    split at e
    · split at e
      · split at e
        · split at e
          · exact putAt_fit e hs rfl (fun m hm => hm)
          · cases e
        · cases e
      · cases e
    · cases e
  · rename_i n sz' f hs
    split at e
    · rename_i hsz
      have hsz := Nat.eq_of_beq_eq_true hsz
      subst hsz
      split at e
      · split at e
        · exact putAt_fit e hs rfl (fun m hm => hm)
        · cases e
      · cases e
    · cases e
  · exact storeS_fit e

theorem storeD_WF {h : Heap} {segs l : List Seg} {o idx sz fo : Nat} {y : AC} (e : storeD segs o idx sz fo y = some l) (hw : segsWF h segs) (hy : acWF h y) : segsWF h l := by
  unfold storeD at e
  split at e
  · split at e
    · split at e
      · split at e
        · split at e
          · exact putAt_WF e hw trivial
          · cases e
        · cases e
      · cases e
    · cases e
  · split at e
    · split at e
      · split at e
        · exact putAt_WF e hw trivial
        · cases e
      · cases e
    · cases e
  · exact storeS_WF e hw hy

theorem storeAt_run {P : Program} {w w' : World} {t : TypeId} {i : TypeInfo} {a : Addr} {v : Value} (hi : P.info? t = some i) (hl : v.cells.toList.length = i.size)
    (h : (storeCells a v.cells.toList).run P w = .ok () w') : (Instr.storeAt t (.pointer (some a)) v).run P w = .ok () w' := by
  have hl' : v.cells.size = i.size := by simpa using hl
  simp [Instr.storeAt, Instr.sureAddr, storeVar, run_sizeOf' hi, hl', h]

theorem putSegs_live {segs l : List Seg} {o : Nat} {new : List Seg} (e : putSegs segs o new = some l) (hl : l ≠ []) : segs ≠ [] := by
  rintro rfl
  cases o with
  | zero =>
    simp only [putSegs] at e
    split at e
    · rename_i a b ha hb
      split at e
      · rename_i hf
        cases e
        have h1 : a = [] := by simp only [takeS] at ha; split at ha <;> cases ha; rfl
        have h2 : b = [] := by simp only [dropS] at hb; split at hb <;> cases hb; rfl
        subst h1; subst h2
        cases new with
        | nil => exact hl rfl
        | cons s new => cases s <;> simp [fitS] at hf
      · cases e
    · cases e
  | succ o => simp [putSegs] at e

theorem storeS_live {segs l : List Seg} {o : Nat} {y : AC} (e : storeS segs o y = some l) (hl : l ≠ []) : segs ≠ [] := by
  cases y with
  | one x => rintro rfl; simp [storeS, putCell] at e
  | agg new => exact putSegs_live e hl

theorem storeD_live {segs l : List Seg} {o idx sz fo : Nat} {y : AC} (e : storeD segs o idx sz fo y = some l) (hl : l ≠ []) : segs ≠ [] := by
  rintro rfl
  simp only [storeD, segAt] at e
  exact storeS_live e hl rfl

theorem storeK_inv {β : Type} {P : Program} {h : Heap} {t : TypeId} {a y : AC} {K : Nat → Heap → Option β} {r : β} (e : storeK P h t a y K = some r) :
    ∃ i h', K i h' = some r ∧ (∀ j, j ≠ i → h'[j]? = h[j]?) ∧ h'.length = h.length ∧ (heapWF h → acWF h a → acWF h y → heapWF h' ∧
      ∀ α w va vy, ACV α a va → ACV α y vy → Sat α h w → ∃ w', (Instr.storeAt t va vy).run P w = .ok () w' ∧ Stp α h w α h' w' ∧ Sat α h' w') := by
  unfold storeK at e
  obtain ⟨ti, hti, e1⟩ := optK_inv e
  obtain ⟨hsz, e2⟩ := ifK_inv e1
  clear e e1
  have hsz := Nat.eq_of_beq_eq_true hsz
  split at e2
  · rename_i i off
    obtain ⟨b, hb, e⟩ := getK_inv e2
    obtain ⟨hm, e⟩ := ifK_inv e
    obtain ⟨l, hl, e⟩ := optK_inv e
    rw [setK_eq] at e
    refine ⟨i, _, e, fun j hj => by rw [List.getElem?_set_ne (Ne.symm hj)], by simp, fun hw ha hy => ⟨heapWF_set hb hw (storeS_WF hl (hw i b hb) hy) (storeS_fit hl), fun α w va vy hva hvy hs => ?_⟩⟩
    cases hva; rename_i hva; cases hva
    obtain ⟨w', h1, h2, h3⟩ := store_run (P := P) hs hb hm (us := vy.cells.toList) (o := off) (hvy.cells.one) (storeS_fit hl) (fun vs hvs => storeS_ok hl hvy hvs) (storeS_live hl)
    exact ⟨w', storeAt_run hti (by rw [hvy.cells.len, hsz]) h1, h2, h3⟩
  · rename_i i off idx sz fo
    obtain ⟨b, hb, e⟩ := getK_inv e2
    obtain ⟨hm, e⟩ := ifK_inv e
    obtain ⟨hne, e⟩ := ifK_inv e
    obtain ⟨l, hl, e⟩ := optK_inv e
    rw [setK_eq] at e
    refine ⟨i, _, e, fun j hj => by rw [List.getElem?_set_ne (Ne.symm hj)], by simp, fun hw ha hy => ⟨heapWF_set hb hw (storeD_WF hl (hw i b hb) hy) (storeD_fit hl), fun α w va vy hva hvy hs => ?_⟩⟩
    cases hva; rename_i hva; cases hva
    obtain ⟨b', hb', hn⟩ := ha.1
    rw [hb] at hb'; cases hb'
    have hne' : vy.cells.toList ≠ [] := fun h0 => by
      have := hvy.cells.len; rw [h0] at this
      have h1 : totLen y.segs = 0 := by simpa using this.symm
      rw [h1] at hne; simp at hne
    obtain ⟨w', h1, h2, h3⟩ := store_run (P := P) hs hb hm (us := vy.cells.toList) (o := off + idx * sz + fo) (hvy.cells.one) (storeD_fit hl) (fun vs hvs => storeD_ok hl hvy hn hne' hvs) (storeD_live hl)
    exact ⟨w', storeAt_run hti (by rw [hvy.cells.len, hsz]) h1, h2, h3⟩
  · cases e2

end Ev
