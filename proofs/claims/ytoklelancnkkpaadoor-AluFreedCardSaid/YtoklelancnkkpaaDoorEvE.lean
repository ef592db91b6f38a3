/-
  Loops, functions and summaries: what the interpreter answers is so of every run of the function (ev_good), for every program that is ProgOk.
-/
import Derived.Test.YtoklelancnkkpaaDoorEvD
import Derived.LoopN
set_option autoImplicit false
set_option linter.unusedVariables false
set_option linter.unusedSimpArgs false
namespace Ev
open Go

/-! ## Other numbers for the blocks -/
section
variable {ρ : Nat → Option Nat} {α α' : Nat → Loc}

mutual
theorem renCl_ok (hρ : ∀ i k, ρ i = some k → α' k = α i) {x : Cl} {v : Value} (hv : V α x v) : V α' (renCl ρ x) v := by
  cases hv with
  | val _ hu => exact .val _ hu
  | bad _ hu => exact .bad _ hu
  | ptr i off =>
    simp only [renCl]
    cases h : ρ i with
    | none => exact .bad _ rfl
    | some k => simp only [← hρ i k h]; exact .ptr k off
  | dptr i off idx sz fo =>
    simp only [renCl]
    cases h : ρ i with
    | none => exact .bad _ rfl
    | some k => simp only [← hρ i k h]; exact .dptr k off idx sz fo
  | gsNil i sz st hr =>
    simp only [renCl]
    cases h : ρ i with
    | none => exact .bad _ rfl
    | some k => exact .gsNil k sz st (by rw [hρ i k h]; exact hr)
  | gs i sz st len ad h1 h2 h3 h4 =>
    simp only [renCl]
    cases h : ρ i with
    | none => exact .bad _ rfl
    | some k =>
      have e := hρ i k h
      rw [← e] at h1 h2 h4 ⊢
      exact .gs k sz st len ad h1 h2 h3 h4
  | sl i off sz st len cap ad h1 h2 h3 =>
    simp only [renCl]
    cases h : ρ i with
    | none => exact .bad _ rfl
    | some k =>
      have e := hρ i k h
      rw [← e] at h3
      exact .sl k off sz st len cap ad h1 h2 h3
  | fn f caps vs h => exact .fn f _ vs (renCls_ok hρ h)
  | ifc t y u h => exact .ifc t _ u (renCl_ok hρ h)
theorem renCls_ok (hρ : ∀ i k, ρ i = some k → α' k = α i) {l : List Cl} {vs : List Value} (hv : Vs α l vs) : Vs α' (renCl.go ρ l) vs := by
  cases hv with
  | nil => exact .nil
  | cons h1 h2 => exact .cons (renCl_ok hρ h1) (renCls_ok hρ h2)
end

theorem renSegs_ok (hρ : ∀ i k, ρ i = some k → α' k = α i) : ∀ {l : List Seg} {vs : List Value}, SegsV α l vs → SegsV α' (renSegs ρ l) vs
  | [], vs, hv => by cases hv; exact .nil
  | .c x :: l, vs, hv => by cases hv with | c h1 h2 => exact .c (renCl_ok hρ h1) (renSegs_ok hρ h2)
  | .ri n k f :: l, vs, hv => by cases hv with | ri h2 => exact .ri (renSegs_ok hρ h2)
  | .r n sz f :: l, vs, hv => by cases hv with | r h1 h2 => exact .r h1 (renSegs_ok hρ h2)

theorem renAC_ok (hρ : ∀ i k, ρ i = some k → α' k = α i) {x : AC} {v : Value} (hv : ACV α x v) : ACV α' (renAC ρ x) v := by
  cases hv with
  | one h => exact .one (renCl_ok hρ h)
  | agg h => exact .agg (renSegs_ok hρ h)

theorem renACs_ok (hρ : ∀ i k, ρ i = some k → α' k = α i) {l : List AC} {vs : List Value} (hv : ACVs α l vs) : ACVs α' (renACs ρ l) vs := by
  induction hv with
  | nil => exact .nil
  | cons h1 _ ih => exact .cons (renAC_ok hρ h1) ih

theorem renAV_ok (hρ : ∀ i k, ρ i = some k → α' k = α i) {x : AV} {v : Value} (hv : AVV α x v) : AVV α' (renAV ρ x) v := by
  cases hv with
  | ac h => exact .ac (renAC_ok hρ h)
  | tup h => exact .tup (renACs_ok hρ h)
  | top v => exact .top v

theorem renAVs_ok (hρ : ∀ i k, ρ i = some k → α' k = α i) {l : List AV} {vs : List Value} (hv : AVVs α l vs) : AVVs α' (renAVs ρ l) vs := by
  induction hv with
  | nil => exact .nil
  | cons h1 _ ih => exact .cons (renAV_ok hρ h1) ih

variable {h h' : Heap}

/-- each block has its place, with the same arrays -/
def RenW (ρ : Nat → Option Nat) (h h' : Heap) : Prop := ∀ i k b, ρ i = some k → h[i]? = some b → ∃ b', h'[k]? = some b' ∧ b'.esz = b.esz ∧ Fit b.segs b'.segs

theorem renCl_WF (hw : RenW ρ h h') : ∀ {x : Cl}, clWF h x → clWF h' (renCl ρ x)
  | .val _, _ => trivial
  | .bad, _ => trivial
  | .ptr i off, hx => by
    simp only [renCl]
    cases hi : ρ i with
    | none => trivial
    | some k => obtain ⟨b', h1, _⟩ := hw i k _ hi (List.getElem?_eq_getElem hx); exact lt_of_get h1
  | .dptr i off idx sz fo, hx => by
    simp only [renCl]
    cases hi : ρ i with
    | none => trivial
    | some k =>
      obtain ⟨b, hb, hn⟩ := hx
      obtain ⟨b', h1, _, h3⟩ := hw i k b hi hb
      exact ⟨b', h1, fun n e => hn n (h3 _ _ e)⟩
  | .gs i sz st len, hx => by
    simp only [renCl]
    cases hi : ρ i with
    | none => trivial
    | some k =>
      obtain ⟨b, hb, he, hn⟩ := hx
      obtain ⟨b', h1, h2, h3⟩ := hw i k b hi hb
      exact ⟨b', h1, h2.trans he, fun n e => hn n (h3 _ _ e)⟩
  | .sl i off sz st len cap, hx => by
    simp only [renCl]
    cases hi : ρ i with
    | none => trivial
    | some k =>
      obtain ⟨b, hb, hn⟩ := hx
      obtain ⟨b', h1, _, h3⟩ := hw i k b hi hb
      exact ⟨b', h1, fun n e => hn n (h3 _ _ e)⟩
  | .fn f cs, hx => go hw hx
  | .ifc t v, hx => renCl_WF hw (x := v) hx
where
  go (hw : RenW ρ h h') : ∀ {cs : List Cl}, clWF.go h cs → clWF.go h' (renCl.go ρ cs)
    | [], _ => trivial
    | x :: l, hx => ⟨renCl_WF hw hx.1, go hw hx.2⟩

theorem renSegs_WF (hw : RenW ρ h h') : ∀ {l : List Seg}, segsWF h l → segsWF h' (renSegs ρ l)
  | [], _ => trivial
  | .c x :: l, hx => ⟨renCl_WF hw hx.1, renSegs_WF hw hx.2⟩
  | .ri _ _ _ :: l, hx => renSegs_WF hw (l := l) hx
  | .r _ _ _ :: l, hx => renSegs_WF hw (l := l) hx

theorem renAC_segs (x : AC) : (renAC ρ x).segs = renSegs ρ x.segs := by cases x <;> rfl

theorem mem_renACs {l : List AC} {y : AC} (hy : y ∈ renACs ρ l) : ∃ x ∈ l, y = renAC ρ x := by
  induction l with
  | nil => simp [renACs] at hy
  | cons x l ih =>
    simp only [renACs, List.mem_cons] at hy
    rcases hy with rfl | hy
    · exact ⟨x, by simp, rfl⟩
    · obtain ⟨z, hz, rfl⟩ := ih hy; exact ⟨z, by simp [hz], rfl⟩

theorem mem_renAVs {l : List AV} {y : AV} (hy : y ∈ renAVs ρ l) : ∃ x ∈ l, y = renAV ρ x := by
  induction l with
  | nil => simp [renAVs] at hy
  | cons x l ih =>
    simp only [renAVs, List.mem_cons] at hy
    rcases hy with rfl | hy
    · exact ⟨x, by simp, rfl⟩
    · obtain ⟨z, hz, rfl⟩ := ih hy; exact ⟨z, by simp [hz], rfl⟩

theorem renAV_WF (hw : RenW ρ h h') {x : AV} (hx : avWF h x) : avWF h' (renAV ρ x) := by
  cases x with
  | ac x => show segsWF h' (renAC ρ x).segs; rw [renAC_segs]; exact renSegs_WF hw hx
  | tup l =>
    intro y hy
    obtain ⟨x, hxl, rfl⟩ := mem_renACs hy
    show segsWF h' (renAC ρ x).segs; rw [renAC_segs]; exact renSegs_WF hw (hx x hxl)
  | top => trivial

theorem renAVs_WF (hw : RenW ρ h h') {l : List AV} (hx : avsWF h l) : avsWF h' (renAVs ρ l) := fun y hy => by
  obtain ⟨x, hxl, rfl⟩ := mem_renAVs hy
  exact renAV_WF hw (hx x hxl)
end

theorem renAVs_get {ρ : Nat → Option Nat} : ∀ {l : List AV} {t : Nat}, (renAVs ρ l)[t]? = (l[t]?).map (renAV ρ)
  | [], t => by simp [renAVs]
  | x :: l, 0 => by simp [renAVs]
  | x :: l, t + 1 => by simp [renAVs, renAVs_get (l := l)]

/-! ### where nothing changes -/
theorem renCl_id {ρ : Nat → Option Nat} : ∀ {x : Cl}, (∀ i ∈ refsCl x, ρ i = some i) → renCl ρ x = x
  | .val _, _ => rfl
  | .bad, _ => rfl
  | .ptr i off, h => by simp [renCl, h i (by simp [refsCl])]
  | .dptr i off idx sz fo, h => by simp [renCl, h i (by simp [refsCl])]
  | .gs i sz st len, h => by simp [renCl, h i (by simp [refsCl])]
  | .sl i off sz st len cap, h => by simp [renCl, h i (by simp [refsCl])]
  | .fn f cs, h => by simp only [renCl]; rw [go h]
  | .ifc t v, h => by simp only [renCl]; rw [renCl_id (x := v) h]
where
  go {ρ : Nat → Option Nat} : ∀ {cs : List Cl}, (∀ i ∈ refsCl.go cs, ρ i = some i) → renCl.go ρ cs = cs
    | [], _ => rfl
    | x :: l, h => by simp only [renCl.go]; rw [renCl_id fun i hi => h i (by simp [refsCl.go, hi]), go fun i hi => h i (by simp [refsCl.go, hi])]

theorem renSegs_id {ρ : Nat → Option Nat} : ∀ {l : List Seg}, (∀ i ∈ refsSegs l, ρ i = some i) → renSegs ρ l = l
  | [], _ => rfl
  | .c x :: l, h => by simp only [renSegs]; rw [renCl_id fun i hi => h i (by simp [refsSegs, hi]), renSegs_id fun i hi => h i (by simp [refsSegs, hi])]
  | .ri _ _ _ :: l, h => by simp only [renSegs]; rw [renSegs_id (l := l) h]
  | .r _ _ _ :: l, h => by simp only [renSegs]; rw [renSegs_id (l := l) h]

theorem renACs_id {ρ : Nat → Option Nat} : ∀ {l : List AC}, (∀ i ∈ refsACs l, ρ i = some i) → renACs ρ l = l
  | [], _ => rfl
  | x :: l, h => by
    simp only [renACs]
    rw [renACs_id fun i hi => h i (by simp [refsACs, hi])]
    congr 1
    cases x with
    | one x => simp only [renAC]; rw [renCl_id fun i hi => h i (by simp [refsACs, AC.segs, refsSegs, hi])]
    | agg l => simp only [renAC]; rw [renSegs_id fun i hi => h i (by simp [refsACs, AC.segs, hi])]

theorem renAV_id {ρ : Nat → Option Nat} {x : AV} (h : ∀ i ∈ refsAV x, ρ i = some i) : renAV ρ x = x := by
  cases x with
  | ac x =>
    have h' : ∀ i ∈ refsACs [x], ρ i = some i := fun i hi => by
      have h1 : i ∈ refsSegs x.segs := by simpa [refsACs] using hi
      exact h i h1
    have := renACs_id (ρ := ρ) (l := [x]) h'
    simp [renACs] at this
    simp [renAV, this]
  | tup l => simp only [renAV]; rw [renACs_id h]
  | top => rfl

theorem renSegs_arr {ρ : Nat → Option Nat} : ∀ {l : List Seg} {off : Nat}, arrLen (renSegs ρ l) off = arrLen l off
  | [], off => rfl
  | .c x :: l, off => by simp only [renSegs]; rw [arrLen_cons, arrLen_cons, renSegs_arr (l := l)]; rfl
  | .ri _ _ _ :: l, off => by simp only [renSegs]; rw [arrLen_cons, arrLen_cons, renSegs_arr (l := l)]
  | .r _ _ _ :: l, off => by simp only [renSegs]; rw [arrLen_cons, arrLen_cons, renSegs_arr (l := l)]

theorem renSegs_fit {ρ : Nat → Option Nat} {l : List Seg} : Fit l (renSegs ρ l) := fun _ _ h => by rwa [renSegs_arr] at h
theorem renSegs_fit' {ρ : Nat → Option Nat} {l : List Seg} : Fit (renSegs ρ l) l := fun _ _ h => by rwa [renSegs_arr]
theorem renSegs_nil {ρ : Nat → Option Nat} {l : List Seg} : renSegs ρ l = [] ↔ l = [] := by
  cases l with
  | nil => simp [renSegs]
  | cons s l => cases s <;> simp [renSegs]

theorem renSegs_plain {ρ : Nat → Option Nat} : ∀ {l : List Seg}, plainB l = true → renSegs ρ l = l
  | [], _ => rfl
  | .c (.val _) :: l, h => by simp only [renSegs]; rw [renSegs_plain (l := l) h]; rfl
  | .ri _ _ _ :: l, h => by simp only [renSegs]; rw [renSegs_plain (l := l) h]
  | .r _ _ _ :: l, h => by simp only [renSegs]; rw [renSegs_plain (l := l) h]
  | .c .bad :: _, e => by cases e
  | .c (.ptr _ _) :: _, e => by cases e
  | .c (.dptr _ _ _ _ _) :: _, e => by cases e
  | .c (.gs _ _ _ _) :: _, e => by cases e
  | .c (.sl _ _ _ _ _ _) :: _, e => by cases e
  | .c (.fn _ _) :: _, e => by cases e
  | .c (.ifc _ _) :: _, e => by cases e

theorem renBlk_plain {ρ : Nat → Option Nat} {b : Blk} (h : plainB b.segs = true) : renBlk ρ b = b := by
  unfold renBlk; rw [renSegs_plain h]

/-! ### lists of numbers -/
theorem rangeN_eq (n : Nat) : rangeN n = List.range n := by
  induction n with
  | zero => rfl
  | succ n ih => simp [rangeN, ih, List.range_succ]

theorem posFrom_get : ∀ {l : List Nat} {x i k : Nat}, posFrom l x i = some k → i ≤ k ∧ l[k - i]? = some x
  | [], x, i, k, h => by simp [posFrom] at h
  | y :: l, x, i, k, h => by
    simp only [posFrom] at h
    split at h
    · rename_i hy; cases h; have := Nat.eq_of_beq_eq_true hy; subst this; simp
    · obtain ⟨h1, h2⟩ := posFrom_get h
      refine ⟨by omega, ?_⟩
      rw [show k - i = (k - (i + 1)) + 1 by omega]; simpa using h2

theorem posN_get {l : List Nat} {x k : Nat} (h : posN l x = some k) : l[k]? = some x := by
  have := (posFrom_get h).2; simpa using this

theorem posFrom_of : ∀ {l : List Nat} {x i k : Nat}, l.Nodup → l[k]? = some x → posFrom l x i = some (i + k)
  | [], x, i, k, _, h => by simp at h
  | y :: l, x, i, k, hn, h => by
    simp only [posFrom]
    cases k with
    | zero => simp at h; subst h; simp
    | succ k =>
      have h : l[k]? = some x := by simpa using h
      have hne : ¬ (Nat.beq y x = true) := fun he => by
        have := Nat.eq_of_beq_eq_true he
        subst this
        exact (List.nodup_cons.1 hn).1 (List.mem_of_getElem? h)
      rw [if_neg hne, posFrom_of (List.nodup_cons.1 hn).2 h]
      congr 1; omega

theorem posN_of {l : List Nat} {x k : Nat} (hn : l.Nodup) (h : l[k]? = some x) : posN l x = some k := by
  have := posFrom_of (i := 0) hn h; simpa [posN] using this

theorem visit_ok : ∀ {n : Nat} {h : Heap} {l acc : List Nat}, ∃ more, visit n h l acc = acc ++ more ∧ (∀ x ∈ more, x < h.length ∧ x ∉ acc) ∧ more.Nodup
  | 0, h, l, acc => ⟨[], by simp [visit], by simp, by simp⟩
  | n + 1, h, [], acc => ⟨[], by simp [visit], by simp, by simp⟩
  | n + 1, h, x :: l, acc => by
    simp only [visit]
    split
    · exact visit_ok
    · rename_i hm
      split
      · rename_i b hb
        obtain ⟨more, h1, h2, h3⟩ := visit_ok (n := n) (h := h) (l := refsSegs b.segs ++ l) (acc := acc ++ [x])
        have hx : x ∉ acc := fun hx => hm (memN_iff.2 hx)
        refine ⟨x :: more, by rw [h1]; simp, fun y hy => ?_, ?_⟩
        · rcases List.mem_cons.1 hy with rfl | hy
          · exact ⟨lt_of_get hb, hx⟩
          · obtain ⟨k1, k2⟩ := h2 y hy
            exact ⟨k1, fun hy => k2 (by simp [hy])⟩
        · refine List.nodup_cons.2 ⟨fun hx => ?_, h3⟩
          exact (h2 x hx).2 (by simp)
      · exact visit_ok

/-- the numbers below base first, then others, none twice -/
structure Ids (base : Nat) (h : Heap) (ids : List Nat) : Prop where
  low : ∀ i, i < base → ids[i]? = some i
  nd : ids.Nodup
  lt : ∀ x ∈ ids, x < h.length
  len : base ≤ ids.length

theorem visit_ids {n : Nat} {h : Heap} {l : List Nat} {base : Nat} (hb : base ≤ h.length) : Ids base h (visit n h l (rangeN base)) := by
  obtain ⟨more, h1, h2, h3⟩ := visit_ok (n := n) (h := h) (l := l) (acc := rangeN base)
  rw [rangeN_eq] at h1 h2
  rw [rangeN_eq, h1]
  refine ⟨fun i hi => by rw [List.getElem?_append_left (by simpa using hi)]; simp [hi], ?_, fun x hx => ?_, by simp⟩
  · rw [List.nodup_append]
    refine ⟨List.nodup_range, h3, fun x hx y hy => ?_⟩
    rintro rfl
    exact (h2 x hy).2 hx
  · rcases List.mem_append.1 hx with hx | hx
    · have := List.mem_range.1 hx; omega
    · exact (h2 x hx).1

theorem range_ids {h : Heap} {base : Nat} (hb : base ≤ h.length) : Ids base h (rangeN base) := by
  have := visit_ids (n := 0) (h := h) (l := []) hb
  simpa [visit] using this

theorem Ids.pos_low {base : Nat} {h : Heap} {ids : List Nat} (I : Ids base h ids) {i : Nat} (hi : i < base) : posN ids i = some i := posN_of I.nd (I.low i hi)

/-! ### the heap -/
theorem lowBlks_get {ρ : Nat → Option Nat} {ws : List Nat} : ∀ {n i : Nat} {l : List Blk} {k : Nat}, (lowBlks ρ ws n i l)[k]? = if k < n then (l[k]?).map fun b => if memN (i + k) ws then renBlk ρ b else b else none
  | 0, i, l, k => by simp [lowBlks]
  | n + 1, i, [], k => by simp [lowBlks]
  | n + 1, i, b :: l, 0 => by simp [lowBlks]
  | n + 1, i, b :: l, k + 1 => by
    simp only [lowBlks, List.getElem?_cons_succ, Nat.add_lt_add_iff_right]
    rw [lowBlks_get (n := n) (i := i + 1) (l := l) (k := k), show i + 1 + k = i + (k + 1) by omega]

theorem highBlks_get {ρ : Nat → Option Nat} {h : Heap} : ∀ {l : List Nat} {k : Nat}, (∀ x ∈ l, x < h.length) → (highBlks ρ h l)[k]? = (l[k]?).bind fun i => (h[i]?).map (renBlk ρ)
  | [], k, _ => by simp [highBlks]
  | i :: l, 0, hl => by
    have hi := hl i (by simp)
    simp [highBlks, List.getElem?_eq_getElem hi]
  | i :: l, k + 1, hl => by
    simp only [highBlks, List.getElem?_cons_succ]
    exact highBlks_get fun x hx => hl x (by simp [hx])

theorem lowBlks_length {ρ : Nat → Option Nat} {ws : List Nat} : ∀ {n i : Nat} {l : List Blk}, n ≤ l.length → (lowBlks ρ ws n i l).length = n
  | 0, i, l, _ => by simp [lowBlks]
  | n + 1, i, [], h => by simp at h
  | n + 1, i, b :: l, h => by simp [lowBlks, lowBlks_length (n := n) (i := i + 1) (l := l) (by simpa using h)]

theorem highBlks_length {ρ : Nat → Option Nat} {h : Heap} : ∀ {l : List Nat}, (highBlks ρ h l).length = l.length
  | [] => rfl
  | i :: l => by simp [highBlks, highBlks_length (l := l)]

theorem gcH_length {base : Nat} {ws ids : List Nat} {h : Heap} (I : Ids base h ids) (hb : base ≤ h.length) : (gcH base ws ids h).length = ids.length := by
  unfold gcH
  rw [List.length_append, lowBlks_length hb, highBlks_length, List.length_drop]
  have := I.len; omega

/-- where the blocks have come from -/
theorem gcH_get {base : Nat} {ws ids : List Nat} {h : Heap} (I : Ids base h ids) (hb : base ≤ h.length) {k : Nat} {b' : Blk} (hk : (gcH base ws ids h)[k]? = some b') :
    ∃ i b, ids[k]? = some i ∧ h[i]? = some b ∧ (k < base → i = k) ∧ ((b' = renBlk (posN ids) b) ∨ (k < base ∧ k ∉ ws ∧ b' = b)) := by
  unfold gcH at hk
  rw [List.getElem?_append] at hk
  rw [lowBlks_length hb] at hk
  split at hk
  · rename_i hlt
    rw [lowBlks_get, if_pos hlt] at hk
    obtain ⟨b, h1, h2⟩ := Option.map_eq_some_iff.1 hk
    rw [Nat.zero_add] at h2
    refine ⟨k, b, I.low k hlt, h1, fun _ => rfl, ?_⟩
    split at h2
    · exact .inl h2.symm
    · rename_i hm; exact .inr ⟨hlt, fun hx => hm (memN_iff.2 hx), h2.symm⟩
  · rename_i hge
    rw [highBlks_get fun x hx => I.lt x (List.mem_of_mem_drop hx)] at hk
    obtain ⟨i, h1, h2⟩ := Option.bind_eq_some_iff.1 hk
    obtain ⟨b, h3, h4⟩ := Option.map_eq_some_iff.1 h2
    rw [List.getElem?_drop] at h1
    refine ⟨i, b, by rw [← h1]; congr 1; omega, h3, fun h => absurd h hge, .inl h4.symm⟩

theorem gcH_at {base : Nat} {ws ids : List Nat} {h : Heap} (I : Ids base h ids) (hb : base ≤ h.length) {k i : Nat} {b : Blk} (hk : ids[k]? = some i) (hi : h[i]? = some b) :
    ∃ b', (gcH base ws ids h)[k]? = some b' ∧ (b' = renBlk (posN ids) b ∨ (k < base ∧ k ∉ ws ∧ b' = b)) := by
  have hlt := lt_of_get hk
  obtain ⟨b', hb'⟩ : ∃ b', (gcH base ws ids h)[k]? = some b' := ⟨_, List.getElem?_eq_getElem (by rw [gcH_length I hb]; exact hlt)⟩
  obtain ⟨i2, b2, h1, h2, _, h3⟩ := gcH_get I hb hb'
  rw [hk] at h1; cases h1
  rw [hi] at h2; cases h2
  exact ⟨b', hb', h3⟩

theorem gcH_low {base : Nat} {ws ids : List Nat} {h : Heap} (I : Ids base h ids) (hb : base ≤ h.length) {k : Nat} (hk : k < base) (hw : k ∉ ws) : (gcH base ws ids h)[k]? = h[k]? := by
  obtain ⟨b, hb0⟩ : ∃ b, h[k]? = some b := ⟨_, List.getElem?_eq_getElem (by omega)⟩
  unfold gcH
  rw [List.getElem?_append, lowBlks_length hb, if_pos hk, lowBlks_get, if_pos hk, hb0]
  have : ¬ (memN k ws = true) := fun hm => hw (memN_iff.1 hm)
  simp [this]
end Ev

namespace Ev
open Go

/-! ## What is forgotten -/
def locOf (α : Nat → Loc) (ids : List Nat) : Nat → Loc := fun k => α (ids.getD k 0)

theorem locOf_at {α : Nat → Loc} {ids : List Nat} {k i : Nat} (h : ids[k]? = some i) : locOf α ids k = α i := by simp [locOf, List.getD_eq_getElem?_getD, h]

structure GcOk (α0 : Nat → Loc) (h0 : Heap) (w0 : World) (α : Nat → Loc) (h : Heap) (w : World) (ws ids : List Nat) : Prop where
  stp : Stp α0 h0 w0 (locOf α ids) (gcH h0.length ws ids h) w
  sat : Sat (locOf α ids) (gcH h0.length ws ids h) w
  hwf : heapWF (gcH h0.length ws ids h)
  loc : ∀ i k, posN ids i = some k → locOf α ids k = α i
  ren : RenW (posN ids) h (gcH h0.length ws ids h)
  wr : ∀ i, i ∉ ws → i < h0.length → (gcH h0.length ws ids h)[i]? = h0[i]?

theorem gc_ok {α0 : Nat → Loc} {h0 : Heap} {w0 : World} {α : Nat → Loc} {h : Heap} {w : World} (S : Stp α0 h0 w0 α h w) (sat : Sat α h w) (hwf : heapWF h) (hwf0 : heapWF h0) {ws ids : List Nat} (I : Ids h0.length h ids)
    (hw : ∀ i, i ∉ ws → i < h0.length → h[i]? = h0[i]?) : GcOk α0 h0 w0 α h w ws ids := by
  have hb : h0.length ≤ h.length := S.length
  have loc : ∀ i k, posN ids i = some k → locOf α ids k = α i := fun i k hk => locOf_at (posN_get hk)
  have lowloc : ∀ i, i < h0.length → locOf α ids i = α i := fun i hi => locOf_at (I.low i hi)
  have ren : RenW (posN ids) h (gcH h0.length ws ids h) := fun i k b hk hi => by
    obtain ⟨b', h1, h2⟩ := gcH_at (ws := ws) I hb (posN_get hk) hi
    rcases h2 with rfl | ⟨_, _, rfl⟩
    · exact ⟨_, h1, rfl, renSegs_fit⟩
    · exact ⟨_, h1, rfl, .refl _⟩
  -- the blocks of the entry
  have shp : ∀ (i : Nat) (b : Blk), h0[i]? = some b → ∃ b', (gcH h0.length ws ids h)[i]? = some b' ∧ b'.mu = b.mu ∧ b'.esz = b.esz ∧ Fit b.segs b'.segs ∧ (b'.live → b.live) := fun i b hi => by
    obtain ⟨b1, h1, h2, h3, h4, h5⟩ := S.shape i b hi
    obtain ⟨b', g1, g2⟩ := gcH_at (ws := ws) I hb (I.low i (lt_of_get hi)) h1
    rcases g2 with rfl | ⟨_, _, rfl⟩
    · exact ⟨_, g1, h2, h3, h4.trans renSegs_fit, fun hl => h5 fun e => hl (by show renSegs _ b1.segs = []; rw [e]; rfl)⟩
    · exact ⟨_, g1, h2, h3, h4, h5⟩
  have hlen' : h0.length ≤ (gcH h0.length ws ids h).length := by rw [gcH_length I hb]; exact I.len
  have same : ∀ i, i ∉ ws → i < h0.length → (gcH h0.length ws ids h)[i]? = h0[i]? := fun i hi hl => by rw [gcH_low I hb hl hi, hw i hi hl]
  -- a block of the new heap: from where, and its cells' meaning
  have blk : ∀ (k : Nat) (b' : Blk), (gcH h0.length ws ids h)[k]? = some b' → ∃ i b, ids[k]? = some i ∧ h[i]? = some b ∧ b'.mu = b.mu ∧ b'.esz = b.esz ∧ (b'.live ↔ b.live) ∧ (∀ vs, SegsV α b.segs vs → SegsV (locOf α ids) b'.segs vs) ∧ segsWF (gcH h0.length ws ids h) b'.segs := fun k b' hk => by
    obtain ⟨i, b, h1, h2, h3, h4⟩ := gcH_get I hb hk
    rcases h4 with rfl | ⟨hlt, hnw, rfl⟩
    · exact ⟨i, b, h1, h2, rfl, rfl, not_congr renSegs_nil, fun vs hv => renSegs_ok loc hv, renSegs_WF ren (hwf i b h2)⟩
    · have := h3 hlt; subst this
      have h20 : h0[i]? = some b' := by rw [← hw i hnw hlt]; exact h2
      have hwf' := hwf0 i b' h20
      refine ⟨i, b', h1, h2, rfl, rfl, Iff.rfl, fun vs hv => hv.agree' fun j hj => lowloc j (segsWF_lt hwf' hj), ?_⟩
      exact segsWF_shape (fun i b hi => let ⟨b', g1, _, g3, g4, _⟩ := shp i b hi; ⟨b', g1, g3, g4⟩) hlen' hwf'
  refine ⟨⟨S.os, S.tape, S.output, S.size, S.cells, S.frame, fun i hi => ?_, shp, fun k b' hk hm hr hl => ?_, fun i b hi hm hp => ?_⟩, ⟨fun k b' hk => ?_, fun k1 k2 b1 b2 hk1 hm1 hr1 hl1 hk2 hr2 hl2 he => ?_⟩, fun k b' hk => ?_, loc, ren, same⟩
  · rw [lowloc i hi]; exact S.al i hi
  · obtain ⟨i, b, h1, h2, h3, h4, h5, _⟩ := blk k b' hk
    rw [locOf_at h1] at hr ⊢
    exact S.newb i b h2 (h3 ▸ hm) hr (h5.1 hl)
  · have h1 := S.fixd i b hi hm hp
    obtain ⟨b', g1, g2⟩ := gcH_at (ws := ws) I hb (I.low i (lt_of_get hi)) h1
    rcases g2 with rfl | ⟨_, _, rfl⟩
    · rw [g1, renBlk_plain hp]
    · exact g1
  · obtain ⟨i, b, h1, h2, h3, h4, h5, h6, _⟩ := blk k b' hk
    have kb := sat.blk i b h2
    refine ⟨fun hr => ?_, fun hr => ?_⟩
    · rw [locOf_at h1] at hr ⊢
      obtain ⟨c, t, fz, vs, g1, g2, g3, g4, g5⟩ := kb.ex hr
      exact ⟨c, t, fz, vs, g1, h6 vs g2, g3, (by rw [h3]; exact g4), (by rw [h4]; exact g5)⟩
    · rw [locOf_at h1] at hr
      exact h6 _ (kb.nl hr)
  · obtain ⟨i1, c1, h1, h2, h3, h4, h5, _⟩ := blk k1 b1 hk1
    obtain ⟨i2, c2, g1, g2, g3, g4, g5, _⟩ := blk k2 b2 hk2
    rw [locOf_at h1] at hr1 he
    rw [locOf_at g1] at hr2 he
    have := sat.sep i1 i2 c1 c2 h2 (h3 ▸ hm1) hr1 (h5.1 hl1) g2 hr2 (g5.1 hl2) he
    subst this
    exact (List.getElem?_inj (lt_of_get h1) I.nd).1 (h1.trans g1.symm)
  · obtain ⟨i, b, _, _, _, _, _, _, h7⟩ := blk k b' hk
    exact h7

theorem mem_sortN {n x : Nat} {l : List Nat} : x ∈ sortN n l ↔ x < n ∧ x ∈ l := by
  have key : ∀ r : List Nat, x ∈ sortN.go l r ↔ x ∈ r ∧ x ∈ l := by
    intro r
    induction r with
    | nil => simp [sortN.go]
    | cons y r ih =>
      simp only [sortN.go]
      split
      · rename_i h
        have := memN_iff.1 h
        simp only [List.mem_cons, ih]
        constructor
        · rintro (rfl | ⟨h1, h2⟩)
          · exact ⟨.inl rfl, this⟩
          · exact ⟨.inr h1, h2⟩
        · rintro ⟨rfl | h1, h2⟩
          · exact .inl rfl
          · exact .inr ⟨h1, h2⟩
      · rename_i h
        rw [ih]
        constructor
        · exact fun ⟨h1, h2⟩ => ⟨List.mem_cons_of_mem _ h1, h2⟩
        · rintro ⟨h1, h2⟩
          rcases List.mem_cons.1 h1 with rfl | h1
          · exact absurd (memN_iff.2 h2) h
          · exact ⟨h1, h2⟩
  unfold sortN
  rw [key, rangeN_eq]
  simp

theorem keepF_get {keep : List Nat} : ∀ {fr : Fr} {i t : Nat}, (keepF keep i fr)[t]? = (fr[t]?).map fun x => if memN (i + t) keep then x else .top
  | [], i, t => by simp [keepF]
  | x :: l, i, 0 => by simp [keepF]
  | x :: l, i, t + 1 => by
    simp only [keepF, List.getElem?_cons_succ]
    rw [keepF_get (fr := l), show i + 1 + t = i + (t + 1) by omega]

/-- where a state comes to, in a function that was entered with base blocks -/
def ComesB (C : Cfg) (base : Nat) (s : St) (e : Ex) (s' : St) (wp : (Exit → Act → World → Prop) → Act → World → Prop) : Prop :=
  ∀ (α0 : Nat → Loc) (h0 : Heap) (w0 : World), h0.length = base → heapWF h0 → Glob C α0 h0 → ∀ (Q : Exit → Act → World → Prop), (∀ α a w, Rel C α0 h0 w0 α s' a w → Q e.toExit a w) → ∀ α a w, Rel C α0 h0 w0 α s a w → wp Q a w

theorem Comes.b {C : Cfg} {s s' : St} {e : Ex} {wp : (Exit → Act → World → Prop) → Act → World → Prop} (h : Comes C s e s' wp) (base : Nat) : ComesB C base s e s' wp := fun α0 h0 w0 _ _ _ Q hQ α a w R => h α0 h0 w0 Q hQ α a w R

/-- of this, nothing of the run is needed -/
def WrB (base : Nat) (s s' : St) : Prop := base ≤ s.h.length → base ≤ s'.h.length ∧ ∀ (h0 : Heap), h0.length = base → (∀ (i : Nat), i ∉ s.ws → i < h0.length → s.h[i]? = h0[i]?) → ∀ (i : Nat), i ∉ s'.ws → i < h0.length → s'.h[i]? = h0[i]?

theorem WrB.refl (base : Nat) (s : St) : WrB base s s := fun h => ⟨h, fun _ _ h => h⟩
theorem WrB.trans {base : Nat} {s s' s'' : St} (h1 : WrB base s s') (h2 : WrB base s' s'') : WrB base s s'' := fun h => by
  obtain ⟨k1, k2⟩ := h1 h
  obtain ⟨k3, k4⟩ := h2 k1
  exact ⟨k3, fun h0 hl hw => k4 h0 hl (k2 h0 hl hw)⟩
theorem WrS.b {s s' : St} (h : WrS s s') (base : Nat) : WrB base s s' := fun hb => ⟨Nat.le_trans hb h.1, fun h0 hl hw => h.2 h0 (by omega) hw⟩

theorem gcSt_wr (base : Nat) (keep : List Nat) (s : St) : WrB base s (gcSt base keep s) := fun hb => by
  have I : Ids base s.h (gcIds base (refsAVs (keepF keep 0 s.fr)) (sortN base s.ws) s.h) := visit_ids hb
  refine ⟨?_, fun h0 hl hw i hi hil => ?_⟩
  · show base ≤ (gcH base _ _ s.h).length
    rw [gcH_length I hb]; exact I.len
  · show (gcH base _ _ s.h)[i]? = _
    have hi : i ∉ sortN base s.ws := hi
    rw [gcH_low I hb (by omega) hi]
    exact hw i (fun h => hi (mem_sortN.2 ⟨by omega, h⟩)) hil

/-- what is kept still holds -/
theorem Rel.gc {C : Cfg} {α0 : Nat → Loc} {h0 : Heap} {w0 : World} {α : Nat → Loc} {s : St} {a : Act} {w : World} (R : Rel C α0 h0 w0 α s a w) (hwf0 : heapWF h0) (g0 : Glob C α0 h0) (keep : List Nat) : ∃ α', Rel C α0 h0 w0 α' (gcSt h0.length keep s) a w := by
  have I : Ids h0.length s.h (gcIds h0.length (refsAVs (keepF keep 0 s.fr)) (sortN h0.length s.ws) s.h) := visit_ids R.stp.length
  have G := gc_ok (ws := sortN h0.length s.ws) R.stp R.sat R.hwf hwf0 I fun i hi hl => R.wr i (fun h => hi (mem_sortN.2 ⟨hl, h⟩)) hl
  have hfr : ∀ (t : Nat) (av : AV), (gcSt h0.length keep s).fr[t]? = some av → ∃ x, (s.fr[t]? = some x ∧ av = renAV (posN (gcIds h0.length (refsAVs (keepF keep 0 s.fr)) (sortN h0.length s.ws) s.h)) x) ∨ (s.fr[t]? = some x ∧ av = .top) := fun t av h => by
    have h : (renAVs _ (keepF keep 0 s.fr))[t]? = some av := h
    rw [renAVs_get, keepF_get] at h
    obtain ⟨y, h1, h2⟩ := Option.map_eq_some_iff.1 h
    obtain ⟨x, h3, h4⟩ := Option.map_eq_some_iff.1 h1
    split at h4
    · subst h4; exact ⟨x, .inl ⟨h3, h2.symm⟩⟩
    · subst h4; exact ⟨x, .inr ⟨h3, h2.symm⟩⟩
  refine ⟨_, G.stp, G.sat, fun t av h => ?_, fun t av h => ?_, G.hwf, g0.step G.stp, fun i hi hl => G.wr i hi hl, R.df⟩
  · obtain ⟨x, ⟨h1, rfl⟩ | ⟨h1, rfl⟩⟩ := hfr t av h
    · obtain ⟨v, hv, hav⟩ := R.slot t x h1
      exact ⟨v, hv, renAV_ok G.loc hav⟩
    · obtain ⟨v, hv, hav⟩ := R.slot t x h1
      exact ⟨v, hv, .top v⟩
  · obtain ⟨x, ⟨h1, rfl⟩ | ⟨h1, rfl⟩⟩ := hfr t av h
    · exact renAV_WF G.ren (R.wf t x h1)
    · trivial
end Ev

namespace Ev
open Go

/-! ## What a function answers -/
theorem loadAt_inv {P : Program} {t : TypeId} {v u : Value} {w : World} (h : (Instr.loadAt t v).run P w = .ok u w) : ∃ a, v = .pointer (some a) ∧ (loadVar t a).run P w = .ok u w := by
  unfold Instr.loadAt Instr.sureAddr at h
  cases v with
  | pointer a =>
    cases a with
    | none => simp at h
    | some a => exact ⟨a, rfl, by simpa using h⟩
  | _ => simp at h

def resOne (tmps : Array Value) : ResultVar → Sem Value
  | .tmp t => Pure.pure (tmps.getD t undef)
  | .cell c t => do loadVar t (← asAddr (tmps.getD c undef))

theorem results_eq (fn : Func) (tmps : Array Value) : results fn tmps = (do
    let vs ← fn.results.mapM (resOne tmps)
    Pure.pure (if h : vs.size = 1 then vs[0] else .tuple vs)) := by
  unfold results
  congr 1

theorem resK_inv {β : Type} {P : Program} {s : St} : ∀ {rs : List ResultVar} {K : List AC → Option β} {r : β}, resK P s rs K = some r →
    ∃ l, K l = some r ∧ ∀ {C : Cfg} {α0 : Nat → Loc} {h0 : Heap} {w0 : World} {α : Nat → Loc} {a : Act} {w : World}, Rel C α0 h0 w0 α s a w →
      ∃ vs, (rs.mapM (resOne a.tmps)).run P w = .ok vs w ∧ ACVs α l vs ∧ ∀ x ∈ l, acWF s.h x
  | [], K, r, e => ⟨[], e, fun R => ⟨[], by simp, .nil, fun _ hx => by cases hx⟩⟩
  | .tmp t :: rs, K, r, e => by
    simp only [resK] at e
    obtain ⟨av, hav, e1⟩ := getK_inv e
    split at e1
    · rename_i x
      obtain ⟨l, e2, hl⟩ := resK_inv e1
      refine ⟨x :: l, e2, fun R => ?_⟩
      obtain ⟨v, h1, h2⟩ := R.slot t _ hav
      obtain ⟨vs, h3, h4, h5⟩ := hl R
      cases h2 with
      | ac h2 =>
        refine ⟨v :: vs, ?_, .cons h2 h4, fun y hy => ?_⟩
        · rw [List.mapM_cons]
          simp only [Sem.run_bind, resOne, Sem.run_pure, Result.andThen_ok, h3]
          simp [h1]
        · rcases List.mem_cons.1 hy with rfl | hy
          · exact R.wf t _ hav
          · exact h5 y hy
    · cases e1
  | .cell c t :: rs, K, r, e => by
    simp only [resK] at e
    obtain ⟨av, hav, e1⟩ := getK_inv e
    split at e1
    · rename_i p
      obtain ⟨x, e2, hx⟩ := loadK_inv e1
      obtain ⟨l, e3, hl⟩ := resK_inv e2
      refine ⟨x :: l, e3, fun {C α0 h0 w0 α a w} R => ?_⟩
      obtain ⟨v, h1, h2⟩ := R.slot c _ hav
      obtain ⟨vs, h3, h4, h5⟩ := hl R
      cases h2 with
      | ac h2 =>
        obtain ⟨k1, k2⟩ := hx R.hwf (R.wf c _ hav)
        obtain ⟨u, k3, k4⟩ := k2 _ _ v h2 R.sat
        obtain ⟨ad, rfl, k5⟩ := loadAt_inv k3
        refine ⟨u :: vs, ?_, .cons k4 h4, fun y hy => ?_⟩
        · rw [List.mapM_cons]
          have hg : a.tmps.getD c undef = .pointer (some ad) := by simp [h1]
          simp only [Sem.run_bind, resOne, hg, asAddr, Sem.run_pure, Result.andThen_ok, k5, h3]
        · rcases List.mem_cons.1 hy with rfl | hy
          · exact k1
          · exact h5 y hy
    · cases e1

theorem results_run {P : Program} {fn : Func} {tmps : Array Value} {w : World} {vs : List Value} {α : Nat → Loc} {l : List AC}
    (h : (fn.results.toList.mapM (resOne tmps)).run P w = .ok vs w) (hl : ACVs α l vs) : ∃ v, (results fn tmps).run P w = .ok v w ∧ AVV α (mkRes l) v := by
  have h1 : (results fn tmps).run P w = .ok (if h : vs.toArray.size = 1 then vs.toArray[0] else .tuple vs.toArray) w := by
    rw [results_eq]
    simp only [Sem.run_bind]
    rw [Array.mapM_eq_mapM_toList]
    simp only [Sem.run_map, h, Result.andThen_ok, Sem.run_pure]
  refine ⟨_, h1, ?_⟩
  cases hl with
  | nil => exact .tup .nil
  | @cons x v l vs hx hl =>
    cases hl with
    | nil => exact .ac hx
    | @cons y u l vs hy hl =>
      have : ¬ (v :: u :: vs).toArray.size = 1 := by simp
      rw [dif_neg this]
      exact .tup (.cons hx (.cons hy hl))

theorem AVVs.get {α : Nat → Loc} {l : List AV} {vs : List Value} (h : AVVs α l vs) {i : Nat} {x : AV} (hx : l[i]? = some x) : ∃ v, vs[i]? = some v ∧ AVV α x v := by
  induction h generalizing i with
  | nil => simp at hx
  | cons h1 _ ih =>
    cases i with
    | zero => simp at hx; subst hx; exact ⟨_, rfl, h1⟩
    | succ i => obtain ⟨v, g1, g2⟩ := ih (by simpa using hx); exact ⟨v, by simpa using g1, g2⟩

theorem AVVs.length {α : Nat → Loc} {l : List AV} {vs : List Value} (h : AVVs α l vs) : vs.length = l.length := by
  induction h with
  | nil => rfl
  | cons _ _ ih => simp [ih]

theorem frame0 {α : Nat → Loc} {args : List AV} {vs : List Value} {n : Nat} (h : AVVs α args vs) {t : Nat} {av : AV} (ht : (args ++ List.replicate (n - args.length) undefA)[t]? = some av) :
    ∃ v, (vs.toArray ++ Array.replicate (n - vs.toArray.size) undef)[t]? = some v ∧ AVV α av v := by
  have hl : vs.length = args.length := h.length
  rw [List.getElem?_append] at ht
  rw [Array.getElem?_append]
  simp only [List.size_toArray, List.getElem?_toArray]
  rw [hl]
  split at ht
  · rename_i hlt
    rw [if_pos hlt]
    exact h.get ht
  · rename_i hlt
    rw [if_neg hlt]
    rw [List.getElem?_replicate] at ht
    split at ht
    · rename_i h2
      cases ht
      refine ⟨undef, by rw [Array.getElem?_replicate, if_pos h2], ?_⟩
      exact .tup .nil
    · cases ht

theorem loopsOf_inner : ∀ {c L : Code} {k : Nat}, (loopsOf c)[k]? = some L → ∀ j M, (loopsOf L)[j]? = some M → (loopsOf c)[k + 1 + j]? = some M
  | .seq a b, L, k, h, j, M, hj => by
    simp only [loopsOf] at h ⊢
    by_cases hk : k < (loopsOf a).length
    · rw [List.getElem?_append_left hk] at h
      have := loopsOf_inner h j M hj
      have hlt := (List.getElem?_eq_some_iff.1 this).1
      rw [List.getElem?_append_left hlt]; exact this
    · rw [List.getElem?_append_right (by omega)] at h
      have := loopsOf_inner h j M hj
      rw [List.getElem?_append_right (by omega), ← this]; congr 1; omega
  | .cond _ a b, L, k, h, j, M, hj => by
    simp only [loopsOf] at h ⊢
    by_cases hk : k < (loopsOf a).length
    · rw [List.getElem?_append_left hk] at h
      have := loopsOf_inner h j M hj
      have hlt := (List.getElem?_eq_some_iff.1 this).1
      rw [List.getElem?_append_left hlt]; exact this
    · rw [List.getElem?_append_right (by omega)] at h
      have := loopsOf_inner h j M hj
      rw [List.getElem?_append_right (by omega), ← this]; congr 1; omega
  | .block _ b, L, k, h, j, M, hj => by
    simp only [loopsOf] at h ⊢
    exact loopsOf_inner h j M hj
  | .loop b, L, k, h, j, M, hj => by
    simp only [loopsOf] at h ⊢
    cases k with
    | zero =>
      simp at h; subst h
      rw [show 0 + 1 + j = j + 1 by omega]; simpa using hj
    | succ k =>
      have := loopsOf_inner (c := b) (by simpa using h) j M hj
      rw [show k + 1 + 1 + j = (k + 1 + j) + 1 by omega]; simpa using this
  | .skip, L, k, h, _, _, _ => by simp [loopsOf] at h
  | .label _, L, k, h, _, _, _ => by simp [loopsOf] at h
  | .region _ _ _, L, k, h, _, _, _ => by simp [loopsOf] at h
  | .exit _, L, k, h, _, _, _ => by simp [loopsOf] at h
  | .goto _, L, k, h, _, _, _ => by simp [loopsOf] at h
  | .scope _, L, k, h, _, _, _ => by simp [loopsOf] at h
  | .ret, L, k, h, _, _, _ => by simp [loopsOf] at h

theorem lookup_mem {α : Type} {l : List (Nat × α)} {i : Nat} {x : α} (h : lookup l i = some x) : (i, x) ∈ l := by
  induction l with
  | nil => simp [lookup] at h
  | cons p l ih =>
    obtain ⟨a, b⟩ := p
    simp only [lookup] at h
    split at h
    · rename_i hab
      cases h
      have := Nat.eq_of_beq_eq_true hab
      subst this
      exact List.mem_cons_self
    · exact List.mem_cons_of_mem _ (ih h)

theorem lookupL_mem {α : Type} {l : List (Nat × List α)} {i : Nat} : lookupL l i = [] ∨ (i, lookupL l i) ∈ l := by
  induction l with
  | nil => exact .inl rfl
  | cons p l ih =>
    obtain ⟨a, b⟩ := p
    simp only [lookupL]
    split
    · rename_i hab
      have := Nat.eq_of_beq_eq_true hab
      subst this
      exact .inr List.mem_cons_self
    · rcases ih with h | h
      · exact .inl h
      · exact .inr (List.mem_cons_of_mem _ h)

end Ev

namespace Ev
open Go

/-! ## Loops -/
/-- a way to run code is right, in a function that was entered with base blocks -/
def RunB {β : Type} (C : Cfg) (base : Nat) (run : St → (Ex → St → Option β) → Option β) (c : Code) : Prop :=
  ∀ s K r, run s K = some r → ∃ e s', K e s' = some r ∧ WrB base s s' ∧ ComesB C base s e s' (c.wp C.P)

theorem loopK_okB {β : Type} {C : Cfg} {base : Nat} {body : St → (Ex → St → Option β) → Option β} {c : Code} (hb : RunB C base body c) : ∀ (k : Nat) (s : St) (K : Ex → St → Option β) (r : β), loopK body k s K = some r →
    ∃ e s', K e s' = some r ∧ WrB base s s' ∧ ComesB C base s e s' (fun Q => Code.rounds C.P c Q k)
  | 0, s, K, r, e => by simp [loopK] at e
  | k + 1, s, K, r, e => by
    simp only [loopK] at e
    obtain ⟨ex, s1, he, hw1, hr⟩ := hb _ _ _ e
    have other : (∀ a w (Q : Exit → Act → World → Prop), Q ex.toExit a w → (match (generalizing := false) ex.toExit with | .normal => Code.rounds C.P c Q k a w | e => Q e a w)) → K ex s1 = some r →
        ∃ e s', K e s' = some r ∧ WrB base s s' ∧ ComesB C base s e s' (fun Q => Code.rounds C.P c Q (k + 1)) := fun h1 h2 =>
      ⟨ex, s1, h2, hw1, fun α0 h0 w0 hbs hwf0 hg0 Q hQ α a w R => by
        show Code.rounds C.P c Q (k + 1) a w
        rw [rounds_succ]
        refine hr α0 h0 w0 hbs hwf0 hg0 _ (fun α' a' w' R' => ?_) α a w R
        have := h1 a' w' Q (hQ α' a' w' R')
        cases ex <;> exact this⟩
    cases ex with
    | normal =>
      obtain ⟨e2, s2, h1, hw2, h2⟩ := loopK_okB hb k s1 K r he
      refine ⟨e2, s2, h1, hw1.trans hw2, fun α0 h0 w0 hbs hwf0 hg0 Q hQ α a w R => ?_⟩
      show Code.rounds C.P c Q (k + 1) a w
      rw [rounds_succ]
      exact hr α0 h0 w0 hbs hwf0 hg0 _ (fun α' a' w' R' => h2 α0 h0 w0 hbs hwf0 hg0 Q hQ α' a' w' R') α a w R
    | exit id => exact other (fun a w Q h => h) he
    | goto l => exact other (fun a w Q h => h) he
    | ret => exact other (fun a w Q h => h) he

/-- a loop's contract is good -/
def LoopGood (C : Cfg) (base : Nat) (L : Code) (S : LS) : Prop := ∀ s e s', S base s = some (e, s') → WrB base s s' ∧ ComesB C base s e s' ((Code.loop L).wp C.P)

def TOk (C : Cfg) (base : Nat) (T : LT) (i : Nat) (c : Code) : Prop := ∀ j L, (loopsOf c)[j]? = some L → ∀ S, lookup T (i + j) = some S → LoopGood C base L S

theorem TOk.seq {C : Cfg} {base : Nat} {T : LT} {i : Nat} {a b : Code} {l : List Code} (h : ∀ j L, (loopsOf a ++ loopsOf b)[j]? = some L → ∀ S, lookup T (i + j) = some S → LoopGood C base L S) :
    TOk C base T i a ∧ TOk C base T (i + nLoops a) b := by
  refine ⟨fun j L hj S hS => h j L ?_ S hS, fun j L hj S hS => h (nLoops a + j) L ?_ S (by rw [← hS]; congr 1; omega)⟩
  · have hlt := (List.getElem?_eq_some_iff.1 hj).1
    rw [List.getElem?_append_left hlt]; exact hj
  · unfold nLoops
    rw [List.getElem?_append_right (by omega)]
    rw [← hj]; congr 1; omega

theorem evCM_ok {β : Type} {C : Cfg} {base : Nat} (P : ProgOk C.P) {call : Call β} (hc : CallOk C call) {T : LT} (lf : Nat) : ∀ (n i : Nat) (c : Code), TOk C base T i c → RunB C base (evCM C call T base lf n i c) c
  | 0, i, c, _ => fun s K r e => by simp [evCM] at e
  | n + 1, i, c, hT => by
    intro s K r e
    simp only [evCM] at e
    split at e
    · exact ⟨_, _, e, .refl _ _, fun α0 h0 w0 hbs hwf0 hg0 Q hQ α a w R => wp_skip (hQ α a w R)⟩
    · exact ⟨_, _, e, .refl _ _, fun α0 h0 w0 hbs hwf0 hg0 Q hQ α a w R => wp_label (hQ α a w R)⟩
    · rename_i id ops draw
      obtain ⟨s', e1, hw1, hr⟩ := region_ok (id := id) P hc e
      exact ⟨_, _, e1, hw1.b _, fun α0 h0 w0 hbs hwf0 hg0 Q hQ α a w R => hr α0 h0 w0 Q hQ α a w R⟩
    · rename_i x y
      obtain ⟨tx, ty⟩ := TOk.seq (l := []) hT
      obtain ⟨ex, s1, he, hw1, hr⟩ := evCM_ok P hc lf n i x tx _ _ _ e
      cases ex with
      | normal =>
        obtain ⟨e2, s2, h1, hw2, h2⟩ := evCM_ok P hc lf n _ y ty _ _ _ he
        exact ⟨e2, s2, h1, hw1.trans hw2, fun α0 h0 w0 hbs hwf0 hg0 Q hQ α a w R => wp_seq (hr α0 h0 w0 hbs hwf0 hg0 _ (fun α' a' w' R' => h2 α0 h0 w0 hbs hwf0 hg0 Q hQ α' a' w' R') α a w R)⟩
      | exit id => exact ⟨_, _, he, hw1, fun α0 h0 w0 hbs hwf0 hg0 Q hQ α a w R => wp_seq (hr α0 h0 w0 hbs hwf0 hg0 _ (fun α' a' w' R' => by exact hQ α' a' w' R') α a w R)⟩
      | goto l => exact ⟨_, _, he, hw1, fun α0 h0 w0 hbs hwf0 hg0 Q hQ α a w R => wp_seq (hr α0 h0 w0 hbs hwf0 hg0 _ (fun α' a' w' R' => by exact hQ α' a' w' R') α a w R)⟩
      | ret => exact ⟨_, _, he, hw1, fun α0 h0 w0 hbs hwf0 hg0 Q hQ α a w R => wp_seq (hr α0 h0 w0 hbs hwf0 hg0 _ (fun α' a' w' R' => by exact hQ α' a' w' R') α a w R)⟩
    · rename_i c0 x y
      obtain ⟨tx, ty⟩ := TOk.seq (l := []) hT
      obtain ⟨t, ht, e1⟩ := evalC_inv e
      obtain ⟨b, rfl, e2⟩ := boolK_inv e1
      have hv : ∀ (α0 : Nat → Loc) (h0 : Heap) (w0 : World) α a w, Rel C α0 h0 w0 α s a w → a.eval c0 = .bool b := fun α0 h0 w0 α a w R => by
        obtain ⟨h1, _⟩ := ht.okC (R.hyp [c0]) (by simp)
        generalize a.eval c0 = z at h1; cases h1; rename_i h1; cases h1; rfl
      rcases cond_inv e2 with ⟨rfl, e3⟩ | ⟨rfl, e3⟩
      · obtain ⟨ex, s1, he, hw1, hr⟩ := evCM_ok P hc lf n i x tx _ _ _ (noteK_inv ht e3)
        exact ⟨ex, s1, he, hw1, fun α0 h0 w0 hbs hwf0 hg0 Q hQ α a w R => wp_cond_true (hv α0 h0 w0 α a w R) (hr α0 h0 w0 hbs hwf0 hg0 Q hQ α a w R)⟩
      · obtain ⟨ex, s1, he, hw1, hr⟩ := evCM_ok P hc lf n _ y ty _ _ _ (noteK_inv ht e3)
        exact ⟨ex, s1, he, hw1, fun α0 h0 w0 hbs hwf0 hg0 Q hQ α a w R => wp_cond_false (hv α0 h0 w0 α a w R) (hr α0 h0 w0 hbs hwf0 hg0 Q hQ α a w R)⟩
    · rename_i id x
      obtain ⟨ex, s1, he, hw1, hr⟩ := evCM_ok P hc lf n i x hT _ _ _ e
      cases ex with
      | normal => exact ⟨_, _, he, hw1, fun α0 h0 w0 hbs hwf0 hg0 Q hQ α a w R => wp_block (hr α0 h0 w0 hbs hwf0 hg0 _ (fun α' a' w' R' => by exact hQ α' a' w' R') α a w R)⟩
      | exit id' =>
        simp only at he
        split at he
        · rename_i hb
          have hb := Nat.eq_of_beq_eq_true hb
          refine ⟨_, _, he, hw1, fun α0 h0 w0 hbs hwf0 hg0 Q hQ α a w R => wp_block (hr α0 h0 w0 hbs hwf0 hg0 _ (fun α' a' w' R' => ?_) α a w R)⟩
          simp only [Ex.toExit, Exit.inBlock]
          rw [if_pos hb]
          exact hQ α' a' w' R'
        · rename_i hb
          refine ⟨_, _, he, hw1, fun α0 h0 w0 hbs hwf0 hg0 Q hQ α a w R => wp_block (hr α0 h0 w0 hbs hwf0 hg0 _ (fun α' a' w' R' => ?_) α a w R)⟩
          simp only [Ex.toExit, Exit.inBlock]
          rw [if_neg (fun h => hb (by rw [h]; exact Nat.beq_refl id))]
          exact hQ α' a' w' R'
      | goto l => exact ⟨_, _, he, hw1, fun α0 h0 w0 hbs hwf0 hg0 Q hQ α a w R => wp_block (hr α0 h0 w0 hbs hwf0 hg0 _ (fun α' a' w' R' => by exact hQ α' a' w' R') α a w R)⟩
      | ret => exact ⟨_, _, he, hw1, fun α0 h0 w0 hbs hwf0 hg0 Q hQ α a w R => wp_block (hr α0 h0 w0 hbs hwf0 hg0 _ (fun α' a' w' R' => by exact hQ α' a' w' R') α a w R)⟩
    · rename_i x
      split at e
      · rename_i S hS
        rw [Option.bind_eq_some_iff] at e
        obtain ⟨⟨e1, s1⟩, h1, h2⟩ := e
        obtain ⟨hw1, hr⟩ := hT 0 x (by simp [loopsOf]) S (by simpa using hS) s e1 s1 h1
        exact ⟨e1, s1, h2, hw1, hr⟩
      · have tx : TOk C base T (i + 1) x := fun j L hj S hS => hT (j + 1) L (by simpa [loopsOf] using hj) S (by rw [← hS]; congr 1; omega)
        obtain ⟨ex, s1, he, hw1, hr⟩ := loopK_okB (evCM_ok P hc lf n (i + 1) x tx) lf s K r e
        exact ⟨ex, s1, he, hw1, fun α0 h0 w0 hbs hwf0 hg0 Q hQ α a w R => wp_loop_rounds lf (hr α0 h0 w0 hbs hwf0 hg0 Q hQ α a w R)⟩
    · rename_i id; exact ⟨_, _, e, .refl _ _, fun α0 h0 w0 hbs hwf0 hg0 Q hQ α a w R => wp_exit (hQ α a w R)⟩
    · rename_i l; exact ⟨_, _, e, .refl _ _, fun α0 h0 w0 hbs hwf0 hg0 Q hQ α a w R => wp_goto (hQ α a w R)⟩
    · rename_i x
      obtain ⟨ex, s1, he, hw1, hr⟩ := scopeK_ok (fun c => evC_ok P hc lf n c) lf x s K r e
      exact ⟨ex, s1, he, hw1.b _, fun α0 h0 w0 hbs hwf0 hg0 Q hQ α a w R => wp_scopeR (hr α0 h0 w0 Q hQ α a w R)⟩
    · exact ⟨_, _, e, .refl _ _, fun α0 h0 w0 hbs hwf0 hg0 Q hQ α a w R => wp_ret (hQ α a w R)⟩
    · cases e

/-- a round of a loop, and the loop -/
def LStep (C : Cfg) (f k base : Nat) (s : St) (e : Ex) (s' : St) : Prop := ∀ L, loopAt C.P f k = some L → WrB base s s' ∧ ComesB C base s e s' (L.wp C.P)
def LRun (C : Cfg) (f k base : Nat) (s : St) (e : Ex) (s' : St) : Prop := ∀ L, loopAt C.P f k = some L → WrB base s s' ∧ ∃ n, ComesB C base s e s' (fun Q => Code.rounds C.P L Q n)

theorem LRun.step {C : Cfg} {f k base : Nat} {s s1 s' : St} {e : Ex} (h : LStep C f k base s .normal s1) (r : LRun C f k base s1 e s') : LRun C f k base s e s' := fun L hL => by
  obtain ⟨hw1, h1⟩ := h L hL
  obtain ⟨hw2, n, h2⟩ := r L hL
  refine ⟨hw1.trans hw2, n + 1, fun α0 h0 w0 hbs hwf0 hg0 Q hQ α a w R => ?_⟩
  show Code.rounds C.P L Q (n + 1) a w
  rw [rounds_succ]
  exact h1 α0 h0 w0 hbs hwf0 hg0 _ (fun α' a' w' R' => h2 α0 h0 w0 hbs hwf0 hg0 Q hQ α' a' w' R') α a w R

theorem LRun.last {C : Cfg} {f k base : Nat} {s s1 : St} {e : Ex} (h : LStep C f k base s e s1) (he : ∀ P c Q n a w, Q e.toExit a w → Exit.then (Code.rounds P c Q n) Q e.toExit a w) : LRun C f k base s e s1 := fun L hL => by
  obtain ⟨hw1, h1⟩ := h L hL
  refine ⟨hw1, 1, fun α0 h0 w0 hbs hwf0 hg0 Q hQ α a w R => ?_⟩
  show Code.rounds C.P L Q (0 + 1) a w
  rw [rounds_succ]
  exact h1 α0 h0 w0 hbs hwf0 hg0 _ (fun α' a' w' R' => he _ _ _ _ _ _ (hQ α' a' w' R')) α a w R

theorem LRun.exit {C : Cfg} {f k base : Nat} {s s1 : St} {id : Nat} (h : LStep C f k base s (.exit id) s1) : LRun C f k base s (.exit id) s1 := .last h fun _ _ _ _ _ _ h => h
theorem LRun.goto {C : Cfg} {f k base : Nat} {s s1 : St} {id : Nat} (h : LStep C f k base s (.goto id) s1) : LRun C f k base s (.goto id) s1 := .last h fun _ _ _ _ _ _ h => h
theorem LRun.ret {C : Cfg} {f k base : Nat} {s s1 : St} (h : LStep C f k base s .ret s1) : LRun C f k base s .ret s1 := .last h fun _ _ _ _ _ _ h => h

/-- from what is kept of the first state -/
theorem LRun.start {C : Cfg} {f k base : Nat} {keep : List Nat} {s s' : St} {e : Ex} (r : LRun C f k base (gcSt base keep s) e s') : LRun C f k base s e s' := fun L hL => by
  obtain ⟨hw2, n, h2⟩ := r L hL
  refine ⟨(gcSt_wr base keep s).trans hw2, n, fun α0 h0 w0 hbs hwf0 hg0 Q hQ α a w R => ?_⟩
  obtain ⟨α', R'⟩ := R.gc hwf0 hg0 keep
  rw [hbs] at R'
  exact h2 α0 h0 w0 hbs hwf0 hg0 Q hQ α' a w R'

/-- contracts of function f's loop k -/
def LGood (C : Cfg) (f k : Nat) (S : LS) : Prop := ∀ base s e s', S base s = some (e, s') → LRun C f k base s e s'

theorem LGood.at {C : Cfg} {f k : Nat} {S : LS} (h : LGood C f k S) {L : Code} (hL : loopAt C.P f k = some L) (base : Nat) : LoopGood C base L S := fun s e s' hs => by
  obtain ⟨hw, n, hr⟩ := h base s e s' hs L hL
  exact ⟨hw, fun α0 h0 w0 hbs hwf0 hg0 Q hQ α a w R => wp_loop_rounds n (hr α0 h0 w0 hbs hwf0 hg0 Q hQ α a w R)⟩

def LGoods (C : Cfg) (l : List (Nat × LT)) : Prop := ∀ p ∈ l, ∀ q ∈ p.2, LGood C p.1 q.1 q.2

theorem LGoods.tok {C : Cfg} {l : List (Nat × LT)} (h : LGoods C l) {base : Nat} {f : Nat} {i : Nat} {c : Code} (hc : ∀ j L, (loopsOf c)[j]? = some L → loopAt C.P f (i + j) = some L) : TOk C base (lookupL l f) i c := by
  intro j L hj S hS
  have hm := lookup_mem hS
  rcases lookupL_mem (l := l) (i := f) with h1 | h1
  · rw [h1] at hm; cases hm
  · exact (h _ h1 _ hm).at (hc j L hj) base
end Ev

namespace Ev
open Go

/-! ## A function's end -/
theorem belowB_ok {n : Nat} : ∀ {l : List Nat}, belowB n l = true → ∀ i ∈ l, i < n
  | [], _, i, hi => by cases hi
  | x :: l, h, i, hi => by
    simp only [belowB] at h
    split at h
    · rename_i hx
      rcases List.mem_cons.1 hi with rfl | hi
      · exact Nat.le_of_ble_eq_true hx
      · exact belowB_ok h i hi
    · cases h

theorem retK_inv {β : Type} {h0 : Heap} {s : St} {v : AV} {K : KR β} {r : β} (e : retK h0 s v K = some r) :
    ∃ v' h' ws l, K v' h' ws l = some r ∧ (l = false → h' = h0) ∧ (h0.length ≤ s.h.length → h0.length ≤ h'.length) ∧
      ((∀ (i : Nat), i ∉ s.ws → i < h0.length → s.h[i]? = h0[i]?) → h0.length ≤ s.h.length → ∀ (i : Nat), i ∉ ws → i < h0.length → h'[i]? = h0[i]?) ∧
      ∀ {C : Cfg} {α0 : Nat → Loc} {w0 : World} {α : Nat → Loc} {a : Act} {w : World}, Rel C α0 h0 w0 α s a w → heapWF h0 → avWF s.h v →
        ∃ α', Stp α0 h0 w0 α' h' w ∧ Sat α' h' w ∧ (∀ u, AVV α v u → AVV α' v' u) ∧ avWF h' v' ∧ heapWF h' := by
  unfold retK at e
  simp only at e
  split at e
  · rename_i hws hb
    refine ⟨_, _, _, _, e, fun _ => rfl, fun _ => Nat.le_refl _, fun _ _ _ _ _ => rfl, fun {C α0 w0 α a w} R hwf0 hv => ?_⟩
    have I : Ids h0.length s.h (rangeN h0.length) := range_ids R.stp.length
    have G := gc_ok (ws := []) (ids := rangeN h0.length) R.stp R.sat R.hwf hwf0 I fun i _ hl => R.wr i (fun h => by
      have : i ∈ sortN h0.length s.ws := mem_sortN.2 ⟨hl, h⟩
      rw [hws] at this; cases this) hl
    have hh : gcH h0.length [] (rangeN h0.length) s.h = h0 := by
      apply List.ext_getElem?
      intro i
      rcases Nat.lt_or_ge i h0.length with hi | hi
      · exact G.wr i (by simp) hi
      · rw [List.getElem?_eq_none hi, List.getElem?_eq_none]
        rw [gcH_length I R.stp.length, rangeN_eq]; simpa using hi
    have hid : renAV (posN (rangeN h0.length)) v = v := renAV_id fun i hi => I.pos_low (belowB_ok hb i hi)
    have h1 := G.stp; have h2 := G.sat; have h3 := G.hwf; have h4 := renAV_WF G.ren hv
    rw [hh] at h1 h2 h3 h4
    rw [hid] at h4
    refine ⟨_, h1, h2, fun u hu => ?_, h4, h3⟩
    have := renAV_ok G.loc hu
    rwa [hid] at this
  · rename_i ws b hne
    have I : h0.length ≤ s.h.length → Ids h0.length s.h (gcIds h0.length (refsAV v) (sortN h0.length s.ws) s.h) := fun h => visit_ids h
    refine ⟨_, _, _, _, e, (fun h => by cases h), fun hl => ?_, fun hw hl i hi hil => ?_, fun {C α0 w0 α a w} R hwf0 hv => ?_⟩
    · rw [gcH_length (I hl) hl]; exact (I hl).len
    · rw [gcH_low (I hl) hl hil hi]
      exact hw i (fun h => hi (mem_sortN.2 ⟨hil, h⟩)) hil
    · have G := gc_ok (ws := sortN h0.length s.ws) R.stp R.sat R.hwf hwf0 (I R.stp.length) fun i hi hl => R.wr i (fun h => hi (mem_sortN.2 ⟨hl, h⟩)) hl
      exact ⟨_, G.stp, G.sat, fun u hu => renAV_ok G.loc hu, renAV_WF G.ren hv, G.hwf⟩

theorem evFn_ok {β : Type} {C : Cfg} (P : ProgOk C.P) {call : Call β} (hc : CallOk C call) {Λ : List (Nat × LT)} (hΛ : LGoods C Λ) {lf n : Nat} {f : FuncId} {args : List AV} {h : Heap} {K : KR β} {r : β} (e : evFn C call Λ lf n f args h K = some r) :
    ∃ v h' ws l, K v h' ws l = some r ∧ CallS C f args h v h' ws l := by
  unfold evFn at e
  obtain ⟨fn, hf, e⟩ := optK_inv e
  obtain ⟨body, hb, e⟩ := optK_inv e
  obtain ⟨ex, s1, he, hw, hr⟩ := evCM_ok (base := h.length) P hc lf n 0 body (hΛ.tok fun j L hj => by simp [loopAt, hf, hb, hj]) _ _ _ e
  have hres : (ex = .normal ∨ ex = .ret) ∧ resK C.P s1 fn.results.toList (fun l => retK h s1 (mkRes l) K) = some r := by
    cases ex with
    | normal => exact ⟨.inl rfl, he⟩
    | ret => exact ⟨.inr rfl, he⟩
    | exit id => simp at he
    | goto l => simp at he
  obtain ⟨hex, hres⟩ := hres
  obtain ⟨l, e1, hl⟩ := resK_inv hres
  obtain ⟨v', h', ws, lo, e2, hq, hlen, hwr, hR⟩ := retK_inv e1
  obtain ⟨hw1, hw2⟩ := hw (Nat.le_refl _)
  refine ⟨v', h', ws, lo, e2, ⟨fn, hf, by rw [hb]; rfl⟩, hwr (hw2 h rfl fun _ _ _ => rfl) hw1, hq, hlen hw1, ?_⟩
  intro α w vs hvs hwf hhw hg hs
  refine calls_of_wp hf hb (hr α h w rfl hhw hg _ (fun α' a' w' R' => ?_) α _ w ?_)
  · obtain ⟨us, k1, k2, k3⟩ := hl R'
    obtain ⟨u, k4, k5⟩ := results_run k1 k2
    have hv : avWF s1.h (mkRes l) := by
      unfold mkRes
      split
      · exact k3 _ (by simp)
      · exact fun y hy => k3 y hy
    obtain ⟨α2, g1, g2, g5, g3, g4⟩ := hR R' hhw hv
    have : a'.defers = [] ∧ ∃ v, (results fn a'.tmps).run C.P w' = .ok v w' ∧ (∃ u α'', Ending.returned v = .returned u ∧ Stp α h w α'' h' w' ∧ Sat α'' h' w' ∧ AVV α'' v' u ∧ avWF h' v' ∧ heapWF h') :=
      ⟨R'.df, u, k4, u, α2, rfl, g1, g2, g5 u k5, g3, g4⟩
    rcases hex with rfl | rfl <;> exact this
  · exact
      { stp := .refl α h w
        sat := hs
        slot := fun t av ht => frame0 hvs ht
        wf := fun t av ht => by
          rw [List.getElem?_append] at ht
          split at ht
          · exact hwf av (List.mem_of_getElem? ht)
          · rw [List.getElem?_replicate] at ht
            split at ht
            · cases ht; exact fun y hy => by cases hy
            · cases ht
        hwf := hhw
        gl := hg
        wr := fun _ _ _ => rfl
        df := rfl }
end Ev

namespace Ev
open Go

/-! ## A summary where there are more blocks -/
theorem renBlks_get {ρ : Nat → Option Nat} : ∀ {l : List Blk} {k : Nat}, (renBlks ρ l)[k]? = (l[k]?).map (renBlk ρ)
  | [], k => by simp [renBlks]
  | b :: l, 0 => by simp [renBlks]
  | b :: l, k + 1 => by simp only [renBlks, List.getElem?_cons_succ]; exact renBlks_get

theorem putBlks_length {ρ : Nat → Option Nat} {ids : List Nat} {h' : Heap} : ∀ {l : List Nat} {h : Heap}, (putBlks ρ ids h' l h).length = h.length
  | [], h => rfl
  | k :: l, h => by
    simp only [putBlks]
    split
    · rw [putBlks_length (l := l)]; simp
    · exact putBlks_length

theorem mem_atIds {ids : List Nat} {i : Nat} : ∀ {l : List Nat}, i ∈ atIds ids l ↔ ∃ k ∈ l, ids[k]? = some i
  | [] => by simp [atIds]
  | k :: l => by
    simp only [atIds]
    split
    · rename_i j hj
      rw [List.mem_cons, mem_atIds (l := l)]
      constructor
      · rintro (rfl | ⟨k', h1, h2⟩)
        · exact ⟨k, by simp, hj⟩
        · exact ⟨k', by simp [h1], h2⟩
      · rintro ⟨k', h1, h2⟩
        rcases List.mem_cons.1 h1 with rfl | h1
        · rw [hj] at h2; cases h2; exact .inl rfl
        · exact .inr ⟨k', h1, h2⟩
    · rename_i hj
      rw [mem_atIds (l := l)]
      constructor
      · rintro ⟨k', h1, h2⟩; exact ⟨k', by simp [h1], h2⟩
      · rintro ⟨k', h1, h2⟩
        rcases List.mem_cons.1 h1 with rfl | h1
        · rw [hj] at h2; cases h2
        · exact ⟨k', h1, h2⟩

theorem putBlks_out {ρ : Nat → Option Nat} {ids : List Nat} {h' : Heap} {i : Nat} : ∀ {l : List Nat} {h : Heap}, (∀ k ∈ l, ids[k]? ≠ some i) → (putBlks ρ ids h' l h)[i]? = h[i]?
  | [], h, _ => rfl
  | k :: l, h, hk => by
    simp only [putBlks]
    split
    · rename_i j b hj hb
      rw [putBlks_out fun k' hk' => hk k' (by simp [hk'])]
      have : j ≠ i := fun e => hk k (by simp) (by rw [hj, e])
      rw [List.getElem?_set_ne this]
    · exact putBlks_out fun k' hk' => hk k' (by simp [hk'])

theorem putBlks_in {ρ : Nat → Option Nat} {ids : List Nat} {h' : Heap} (nd : ids.Nodup) {i k : Nat} {b : Blk} (hki : ids[k]? = some i) (hb : h'[k]? = some b) : ∀ {l : List Nat} {h : Heap}, i < h.length → k ∈ l → (putBlks ρ ids h' l h)[i]? = some (renBlk ρ b)
  | [], h, _, hk => by cases hk
  | k' :: l, h, hi, hk => by
    by_cases hkl : k ∈ l
    · simp only [putBlks]
      split
      · exact putBlks_in nd hki hb (by simpa using hi) hkl
      · exact putBlks_in nd hki hb hi hkl
    · have : k = k' := by
        rcases List.mem_cons.1 hk with h | h
        · exact h
        · exact absurd h hkl
      subst this
      simp only [putBlks, hki, hb]
      rw [putBlks_out]
      · simp [hi]
      · intro k' hk' he
        have := (List.getElem?_inj (lt_of_get hki) nd).1 (hki.trans he.symm)
        subst this
        exact hkl hk'

theorem closedB_ok {h : Heap} {ids : List Nat} : ∀ {l : List Nat}, closedB h ids l = true → ∀ i ∈ l, ∀ b, h[i]? = some b → b.mu = true → ∀ j ∈ refsSegs b.segs, j ∈ ids
  | [], _, i, hi => by cases hi
  | k :: l, e, i, hi => by
    intro b hb hm j hj
    simp only [closedB] at e
    rcases List.mem_cons.1 hi with rfl | hi
    · rw [hb] at e
      simp only [hm, if_true] at e
      split at e
      · rename_i ha; exact memN_iff.1 (allB_ok ha j hj)
      · cases e
    · split at e
      · split at e
        · split at e
          · exact closedB_ok e i hi b hb hm j hj
          · cases e
        · exact closedB_ok e i hi b hb hm j hj
      · exact closedB_ok e i hi b hb hm j hj

/-- there and back -/
theorem renCl_back {ρ σ : Nat → Option Nat} : ∀ {x : Cl}, (∀ i ∈ refsCl x, ∃ k, ρ i = some k ∧ σ k = some i) → renCl σ (renCl ρ x) = x
  | .val _, _ => rfl
  | .bad, _ => rfl
  | .ptr i off, h => by obtain ⟨k, h1, h2⟩ := h i (by simp [refsCl]); simp [renCl, h1, h2]
  | .dptr i off idx sz fo, h => by obtain ⟨k, h1, h2⟩ := h i (by simp [refsCl]); simp [renCl, h1, h2]
  | .gs i sz st len, h => by obtain ⟨k, h1, h2⟩ := h i (by simp [refsCl]); simp [renCl, h1, h2]
  | .sl i off sz st len cap, h => by obtain ⟨k, h1, h2⟩ := h i (by simp [refsCl]); simp [renCl, h1, h2]
  | .fn f cs, h => by simp only [renCl]; rw [go h]
  | .ifc t v, h => by simp only [renCl]; rw [renCl_back (x := v) h]
where
  go {ρ σ : Nat → Option Nat} : ∀ {cs : List Cl}, (∀ i ∈ refsCl.go cs, ∃ k, ρ i = some k ∧ σ k = some i) → renCl.go σ (renCl.go ρ cs) = cs
    | [], _ => rfl
    | x :: l, h => by simp only [renCl.go]; rw [renCl_back fun i hi => h i (by simp [refsCl.go, hi]), go fun i hi => h i (by simp [refsCl.go, hi])]

theorem renSegs_back {ρ σ : Nat → Option Nat} : ∀ {l : List Seg}, (∀ i ∈ refsSegs l, ∃ k, ρ i = some k ∧ σ k = some i) → renSegs σ (renSegs ρ l) = l
  | [], _ => rfl
  | .c x :: l, h => by simp only [renSegs]; rw [renCl_back fun i hi => h i (by simp [refsSegs, hi]), renSegs_back fun i hi => h i (by simp [refsSegs, hi])]
  | .ri _ _ _ :: l, h => by simp only [renSegs]; rw [renSegs_back (l := l) h]
  | .r _ _ _ :: l, h => by simp only [renSegs]; rw [renSegs_back (l := l) h]

/-- the heap of those blocks alone -/
theorem sub_get {ρ : Nat → Option Nat} {base : Nat} {h : Heap} {ids : List Nat} (I : Ids base h ids) {k : Nat} {b' : Blk} (hk : (highBlks ρ h ids)[k]? = some b') : ∃ i b, ids[k]? = some i ∧ h[i]? = some b ∧ b' = renBlk ρ b := by
  rw [highBlks_get I.lt] at hk
  obtain ⟨i, h1, h2⟩ := Option.bind_eq_some_iff.1 hk
  obtain ⟨b, h3, h4⟩ := Option.map_eq_some_iff.1 h2
  exact ⟨i, b, h1, h3, h4.symm⟩

theorem sub_at {ρ : Nat → Option Nat} {base : Nat} {h : Heap} {ids : List Nat} (I : Ids base h ids) {k i : Nat} {b : Blk} (hk : ids[k]? = some i) (hi : h[i]? = some b) : (highBlks ρ h ids)[k]? = some (renBlk ρ b) := by
  rw [highBlks_get I.lt, hk]; simp [hi]

theorem renBlk_live {ρ : Nat → Option Nat} {b : Blk} : (renBlk ρ b).live ↔ b.live := not_congr renSegs_nil

structure SubOk (C : Cfg) (α : Nat → Loc) (h : Heap) (w : World) (ids : List Nat) : Prop where
  sat : Sat (locOf α ids) (highBlks (posN ids) h ids) w
  hwf : heapWF (highBlks (posN ids) h ids)
  gl : Glob C (locOf α ids) (highBlks (posN ids) h ids)
  loc : ∀ i k, posN ids i = some k → locOf α ids k = α i
  ren : RenW (posN ids) h (highBlks (posN ids) h ids)

theorem sub_ok {C : Cfg} {α : Nat → Loc} {h : Heap} {w : World} {ids : List Nat} (I : Ids C.glob.length h ids) (hwf : heapWF h) (g : Glob C α h) (s : Sat α h w) : SubOk C α h w ids := by
  have loc : ∀ i k, posN ids i = some k → locOf α ids k = α i := fun i k hk => locOf_at (posN_get hk)
  have ren : RenW (posN ids) h (highBlks (posN ids) h ids) := fun i k b hk hi => ⟨_, sub_at I (posN_get hk) hi, rfl, renSegs_fit⟩
  refine ⟨⟨fun k b' hk => ?_, fun k1 k2 b1 b2 hk1 hm1 hr1 hl1 hk2 hr2 hl2 he => ?_⟩, fun k b' hk => ?_, fun gg k hk => ?_, loc, ren⟩
  · obtain ⟨i, b, h1, h2, rfl⟩ := sub_get I hk
    have kb := s.blk i b h2
    refine ⟨fun hr => ?_, fun hr => ?_⟩
    · rw [locOf_at h1] at hr ⊢
      obtain ⟨c, t, fz, vs, g1, g2, g3, g4, g5⟩ := kb.ex hr
      exact ⟨c, t, fz, vs, g1, renSegs_ok loc g2, g3, g4, g5⟩
    · rw [locOf_at h1] at hr
      exact renSegs_ok loc (kb.nl hr)
  · obtain ⟨i1, c1, h1, h2, rfl⟩ := sub_get I hk1
    obtain ⟨i2, c2, g1, g2, rfl⟩ := sub_get I hk2
    rw [locOf_at h1] at hr1 he
    rw [locOf_at g1] at hr2 he
    have := s.sep i1 i2 c1 c2 h2 hm1 hr1 (renBlk_live.1 hl1) g2 hr2 (renBlk_live.1 hl2) he
    subst this
    exact (List.getElem?_inj (lt_of_get h1) I.nd).1 (h1.trans g1.symm)
  · obtain ⟨i, b, h1, h2, rfl⟩ := sub_get I hk
    exact renSegs_WF ren (hwf i b h2)
  · obtain ⟨b, h1, h2, h3, h4, h5⟩ := g gg k hk
    have hlt : k < C.glob.length := lt_of_get (posN_get hk)
    have hik := I.low k hlt
    exact ⟨_, sub_at I hik h1, h2, by rw [locOf_at hik]; exact h3, by rw [locOf_at hik]; exact h4, fun l hl => by
      obtain ⟨h6, h7⟩ := h5 l hl
      exact ⟨by rw [h6]; exact renBlk_plain h7, h7⟩⟩

/-- the places of the lifted heap -/
def backLoc (α α' : Nat → Loc) (m n : Nat) : Nat → Loc := fun i => if i < n then α i else α' (m + (i - n))

def liftH (ids : List Nat) (h' : Heap) (ws : List Nat) (h : Heap) : Heap := putBlks (backF ids h.length) ids h' ws h ++ renBlks (backF ids h.length) (h'.drop ids.length)

structure LiftOk (α : Nat → Loc) (h : Heap) (w : World) (α2 : Nat → Loc) (h2 : Heap) (w' : World) (back : Nat → Option Nat) (α' : Nat → Loc) (h' : Heap) : Prop where
  stp : Stp α h w α2 h2 w'
  sat : Sat α2 h2 w'
  hwf : heapWF h2
  loc : ∀ k i, back k = some i → α2 i = α' k
  ren : RenW back h' h2

theorem lift_ok {base : Nat} {α : Nat → Loc} {h : Heap} {w : World} {ids : List Nat} (I : Ids base h ids) (hwf : heapWF h) (s : Sat α h w) (hcl : closedB h ids ids = true)
    {α' : Nat → Loc} {h' : Heap} {w' : World} {ws : List Nat} (st : Stp (locOf α ids) (highBlks (posN ids) h ids) w α' h' w') (s' : Sat α' h' w') (hwf' : heapWF h')
    (hw : ∀ k, k ∉ ws → k < (highBlks (posN ids) h ids).length → h'[k]? = (highBlks (posN ids) h ids)[k]?) (hnew : ∀ k b, ids.length ≤ k → h'[k]? = some b → b.mu = true) :
    LiftOk α h w (backLoc α α' ids.length h.length) (liftH ids h' ws h) w' (backF ids h.length) α' h' := by
  have hlen : (highBlks (posN ids) h ids).length = ids.length := highBlks_length
  have hle : ids.length ≤ h'.length := by rw [← hlen]; exact st.length
  have old : ∀ i, i < h.length → backLoc α α' ids.length h.length i = α i := fun i hi => by simp [backLoc, hi]
  have idlt : ∀ k i, ids[k]? = some i → i < h.length := fun k i hk => I.lt i (List.mem_of_getElem? hk)
  have loc : ∀ k i, backF ids h.length k = some i → backLoc α α' ids.length h.length i = α' k := fun k i hk => by
    unfold backF at hk
    split at hk
    · rw [old i (idlt k i hk), st.al k (by rw [hlen]; exact lt_of_get hk), locOf_at hk]
    · rename_i hge
      have hge : ids.length ≤ k := by
        rcases Nat.lt_or_ge k ids.length with h' | h'
        · exact absurd (Nat.ble_eq_true_of_le h') hge
        · exact h'
      cases hk
      unfold backLoc
      rw [if_neg (by omega)]
      congr 1; omega
  have back_low : ∀ k i, ids[k]? = some i → backF ids h.length k = some i := fun k i hk => by
    unfold backF
    have hb : Nat.blt k ids.length = true := Nat.ble_eq_true_of_le (lt_of_get hk)
    simp only [hb, if_true]
    exact hk
  have back_high : ∀ k, ids.length ≤ k → backF ids h.length k = some (h.length + (k - ids.length)) := fun k hk => by
    unfold backF
    have : ¬ (Nat.blt k ids.length = true) := fun hb => by have := Nat.le_of_ble_eq_true hb; omega
    rw [if_neg this]
  have back_inj : ∀ k1 k2 i, backF ids h.length k1 = some i → backF ids h.length k2 = some i → k1 = k2 := fun k1 k2 i h1 h2 => by
    rcases Nat.lt_or_ge k1 ids.length with l1 | l1 <;> rcases Nat.lt_or_ge k2 ids.length with l2 | l2
    · rw [back_low k1 _ (List.getElem?_eq_getElem l1)] at h1
      rw [back_low k2 _ (List.getElem?_eq_getElem l2)] at h2
      exact (List.getElem?_inj l1 I.nd).1 (by rw [List.getElem?_eq_getElem l1, List.getElem?_eq_getElem l2, h1, h2])
    · rw [back_low k1 _ (List.getElem?_eq_getElem l1)] at h1
      rw [back_high k2 l2] at h2
      have := idlt k1 i (by rw [List.getElem?_eq_getElem l1, h1])
      cases h2; omega
    · rw [back_low k2 _ (List.getElem?_eq_getElem l2)] at h2
      rw [back_high k1 l1] at h1
      have := idlt k2 i (by rw [List.getElem?_eq_getElem l2, h2])
      cases h1; omega
    · rw [back_high k1 l1] at h1; rw [back_high k2 l2] at h2
      cases h1; injection h2 with h2; omega
  have round : ∀ l : List Seg, (∀ j ∈ refsSegs l, j ∈ ids) → renSegs (backF ids h.length) (renSegs (posN ids) l) = l := fun l hl => renSegs_back fun j hj => by
    obtain ⟨k, hk⟩ := List.getElem?_of_mem (hl j hj)
    exact ⟨k, posN_of I.nd hk, back_low k j hk⟩
  have hpl : (putBlks (backF ids h.length) ids h' ws h).length = h.length := putBlks_length
  -- from where a block comes
  have from_ : ∀ i b2, (liftH ids h' ws h)[i]? = some b2 → (∃ k b1, backF ids h.length k = some i ∧ h'[k]? = some b1 ∧ b2 = renBlk (backF ids h.length) b1) ∨
      (i < h.length ∧ h[i]? = some b2 ∧ ∀ k, ids[k]? = some i → h'[k]? = some (renBlk (posN ids) b2)) := fun i b2 hi => by
    unfold liftH at hi
    rw [List.getElem?_append, hpl] at hi
    split at hi
    · rename_i hlt
      by_cases hx : ∃ k, k ∈ ws ∧ ids[k]? = some i
      · obtain ⟨k, hkw, hki⟩ := hx
        obtain ⟨b1, hb1⟩ : ∃ b1, h'[k]? = some b1 := ⟨_, List.getElem?_eq_getElem (Nat.lt_of_lt_of_le (lt_of_get hki) hle)⟩
        rw [putBlks_in I.nd hki hb1 hlt hkw] at hi
        cases hi
        exact .inl ⟨k, b1, back_low k i hki, hb1, rfl⟩
      · rw [putBlks_out fun k hk he => hx ⟨k, hk, he⟩] at hi
        refine .inr ⟨hlt, hi, fun k hk => ?_⟩
        rw [hw k (fun h => hx ⟨k, h, hk⟩) (by rw [hlen]; exact lt_of_get hk)]
        exact sub_at I hk hi
    · rename_i hge
      rw [renBlks_get, List.getElem?_drop] at hi
      obtain ⟨b1, h1, h2⟩ := Option.map_eq_some_iff.1 hi
      refine .inl ⟨ids.length + (i - h.length), b1, ?_, h1, h2.symm⟩
      rw [back_high _ (by omega)]
      congr 1; omega
  -- where a block goes
  have to_ : ∀ k b1 i, backF ids h.length k = some i → h'[k]? = some b1 → ∃ b2, (liftH ids h' ws h)[i]? = some b2 ∧ (b2 = renBlk (backF ids h.length) b1 ∨ (h[i]? = some b2 ∧ b1 = renBlk (posN ids) b2)) := fun k b1 i hk hb => by
    have hlt : i < (liftH ids h' ws h).length := by
      unfold liftH
      rw [List.length_append, hpl]
      rcases Nat.lt_or_ge k ids.length with l1 | l1
      · rw [back_low k _ (List.getElem?_eq_getElem l1)] at hk
        have := idlt k i (by rw [List.getElem?_eq_getElem l1, hk]); omega
      · rw [back_high k l1] at hk
        have h1 : (renBlks (backF ids h.length) (h'.drop ids.length))[k - ids.length]? = some (renBlk (backF ids h.length) b1) := by
          rw [renBlks_get, List.getElem?_drop, show ids.length + (k - ids.length) = k by omega, hb]; rfl
        have := lt_of_get h1
        cases hk; omega
    obtain ⟨b2, hb2⟩ : ∃ b2, (liftH ids h' ws h)[i]? = some b2 := ⟨_, List.getElem?_eq_getElem hlt⟩
    refine ⟨b2, hb2, ?_⟩
    rcases from_ i b2 hb2 with ⟨k', b1', h1, h2, h3⟩ | ⟨h1, h2, h3⟩
    · have := back_inj k k' i hk h1
      subst this
      rw [hb] at h2; cases h2
      exact .inl h3
    · rcases Nat.lt_or_ge k ids.length with l1 | l1
      · have hki : ids[k]? = some i := by rw [back_low k _ (List.getElem?_eq_getElem l1)] at hk; rw [List.getElem?_eq_getElem l1, hk]
        have := h3 k hki
        rw [hb] at this; cases this
        exact .inr ⟨h2, rfl⟩
      · rw [back_high k l1] at hk; cases hk; omega
  have ren : RenW (backF ids h.length) h' (liftH ids h' ws h) := fun k i b1 hk hb => by
    obtain ⟨b2, h1, h2⟩ := to_ k b1 i hk hb
    rcases h2 with rfl | ⟨_, rfl⟩
    · exact ⟨_, h1, rfl, renSegs_fit⟩
    · exact ⟨_, h1, rfl, renSegs_fit'⟩
  have shp : ∀ (i : Nat) (b : Blk), h[i]? = some b → ∃ b', (liftH ids h' ws h)[i]? = some b' ∧ b'.mu = b.mu ∧ b'.esz = b.esz ∧ Fit b.segs b'.segs ∧ (b'.live → b.live) := fun i b hi => by
    have hil := lt_of_get hi
    obtain ⟨b2, hb2⟩ : ∃ b2, (liftH ids h' ws h)[i]? = some b2 := ⟨_, List.getElem?_eq_getElem (by unfold liftH; rw [List.length_append, hpl]; omega)⟩
    refine ⟨b2, hb2, ?_⟩
    rcases from_ i b2 hb2 with ⟨k, b1, h1, h2, rfl⟩ | ⟨_, h2, _⟩
    · rcases Nat.lt_or_ge k ids.length with l1 | l1
      · have hki : ids[k]? = some i := by rw [back_low k _ (List.getElem?_eq_getElem l1)] at h1; rw [List.getElem?_eq_getElem l1, h1]
        obtain ⟨b3, g1, g2, g3, g4, g5⟩ := st.shape k _ (sub_at I hki hi)
        rw [h2] at g1; cases g1
        exact ⟨g2, g3, renSegs_fit.trans (g4.trans renSegs_fit), fun hl => renBlk_live.1 (g5 (renBlk_live.1 hl))⟩
      · rw [back_high k l1] at h1; cases h1; omega
    · rw [hi] at h2; cases h2
      exact ⟨rfl, rfl, .refl _, id⟩
  have hlen2 : h.length ≤ (liftH ids h' ws h).length := by unfold liftH; rw [List.length_append, hpl]; omega
  -- a live block that was not handed on lies in no object that is handed on as mutable
  have away : ∀ (i : Nat) (b : Blk), h[i]? = some b → (α i).real = true → b.live → (b.mu = false ∨ i ∉ ids) → ∀ (k : Nat) (b1 : Blk), (highBlks (posN ids) h ids)[k]? = some b1 → b1.mu = true → (locOf α ids k).real = true → b1.live → (locOf α ids k).b ≠ (α i).b := fun i b hi hr hl hor k b1 hk hm hrk hlk he => by
    obtain ⟨j, bj, g1, g2, rfl⟩ := sub_get I hk
    rw [locOf_at g1] at hrk he
    have := s.sep j i bj b g2 hm hrk (renBlk_live.1 hlk) hi hr hl he
    subst this
    rcases hor with h1 | h1
    · rw [hi] at g2; cases g2
      have hm : b.mu = true := hm
      rw [h1] at hm; cases hm
    · exact h1 (List.mem_of_getElem? g1)
  refine ⟨⟨st.os, st.tape, st.output, st.size, st.cells, fun o ho hn => ?_, old, shp, fun i b2 hi hm hr hl => ?_, fun i b hi hm hp => ?_⟩, ⟨fun i b2 hi => ?_, fun i j bi bj hi hm hri hli hj hrj hlj he => ?_⟩, fun i b2 hi => ?_, loc, ren⟩
  · refine st.frame o ho fun k b1 hk hm hr hl => ?_
    obtain ⟨i, b, h1, h2, rfl⟩ := sub_get I hk
    rw [locOf_at h1] at hr ⊢
    exact hn i b h2 hm hr (renBlk_live.1 hl)
  · rcases from_ i b2 hi with ⟨k, b1, h1, h2, rfl⟩ | ⟨h1, h2, _⟩
    · rw [loc k i h1] at hr ⊢
      rcases st.newb k b1 h2 hm hr (renBlk_live.1 hl) with g | ⟨j, b3, g1, g2, g3, g4, g5⟩
      · exact .inl g
      · obtain ⟨i3, b4, e1, e2, rfl⟩ := sub_get I g1
        rw [locOf_at e1] at g3 g5
        exact .inr ⟨i3, b4, e2, g2, g3, renBlk_live.1 g4, g5⟩
    · rw [old i h1] at hr ⊢
      exact .inr ⟨i, b2, h2, hm, hr, hl, rfl⟩
  · obtain ⟨b2, hb2, _⟩ := shp i b hi
    rw [hb2]
    rcases from_ i b2 hb2 with ⟨k, b1, h1, h2, rfl⟩ | ⟨_, h2, _⟩
    · rcases Nat.lt_or_ge k ids.length with l1 | l1
      · have hki : ids[k]? = some i := by rw [back_low k _ (List.getElem?_eq_getElem l1)] at h1; rw [List.getElem?_eq_getElem l1, h1]
        have hs := sub_at (ρ := posN ids) I hki hi
        rw [renBlk_plain hp] at hs
        have := st.fixd k b hs hm hp
        rw [h2] at this; cases this
        rw [renBlk_plain hp]
      · rw [back_high k l1] at h1; cases h1; have := lt_of_get hi; omega
    · rw [hi] at h2; cases h2; rfl
  · rcases from_ i b2 hi with ⟨k, b1, h1, h2, rfl⟩ | ⟨h1, h2, h3⟩
    · have kb := s'.blk k b1 h2
      refine ⟨fun hr => ?_, fun hr => ?_⟩
      · rw [loc k i h1] at hr ⊢
        obtain ⟨c, t, fz, vs, g1, g2, g3, g4, g5⟩ := kb.ex hr
        exact ⟨c, t, fz, vs, g1, renSegs_ok loc g2, g3, g4, g5⟩
      · rw [loc k i h1] at hr
        exact renSegs_ok loc (kb.nl hr)
    · have agree : ∀ vs, SegsV α b2.segs vs → SegsV (backLoc α α' ids.length h.length) b2.segs vs := fun vs hv => hv.agree old (hwf i b2 h2)
      have kb := s.blk i b2 h2
      refine ⟨fun hr => ?_, fun hr => ?_⟩
      · rw [old i h1] at hr ⊢
        obtain ⟨c, t, fz, vs, g1, g2, g3, g4, g5⟩ := kb.ex hr
        by_cases hl : b2.live
        · by_cases hor : b2.mu = false ∨ i ∉ ids
          · refine ⟨c, t, fz, vs, ?_, agree vs g2, g3, g4, g5⟩
            rw [st.frame (α i).b (World.size_lt_of_heap g1) (away i b2 h2 hr hl hor)]
            exact g1
          · have hmu : b2.mu = true := by
              cases hb : b2.mu with
              | true => rfl
              | false => exact absurd (.inl hb) hor
            have hin : i ∈ ids := by
              rcases Classical.em (i ∈ ids) with h | h
              · exact h
              · exact absurd (.inr h) hor
            obtain ⟨k, hk⟩ := List.getElem?_of_mem hin
            have e1 := loc k i (back_low k i hk)
            rw [old i h1] at e1
            rw [e1] at hr ⊢
            obtain ⟨c', t', fz', vs', k1, k2, k3, k4, k5⟩ := (s'.blk k _ (h3 k hk)).ex hr
            refine ⟨c', t', fz', vs', k1, ?_, k3, k4, k5⟩
            have := renSegs_ok loc k2
            rwa [show (renBlk (posN ids) b2).segs = renSegs (posN ids) b2.segs from rfl, round b2.segs (closedB_ok hcl i hin b2 h2 hmu)] at this
        · have hbs : b2.segs = [] := Decidable.not_not.1 hl
          obtain ⟨c', k1, k2⟩ := st.cells (α i).b c t fz g1
          refine ⟨c', t, fz, [], k1, by rw [hbs]; exact .nil, fun j v hv => by simp at hv, fun hm o ho => g4 hm o (by omega), by omega⟩
      · rw [old i h1] at hr
        exact agree _ (kb.nl hr)
  · -- two that share an object
    have hA : ∀ (i : Nat) (b : Blk), i < h.length → h[i]? = some b → (∀ k, ids[k]? = some i → h'[k]? = some (renBlk (posN ids) b)) → (α i).real = true → b.live → ∀ (k : Nat) (b1 : Blk) (j : Nat), backF ids h.length k = some j → h'[k]? = some b1 → (α' k).real = true → b1.live → (α' k).b = (α i).b → (b.mu = true ∨ b1.mu = true) → i = j :=
      fun i b hil hi h3 hri hli k b1 j hkj hk hrk hlk he hor => by
        by_cases hin : i ∈ ids
        · obtain ⟨ki, hki⟩ := List.getElem?_of_mem hin
          have e1 := loc ki i (back_low ki i hki)
          rw [old i hil] at e1
          have hki' := h3 ki hki
          have : ki = k := by
            rcases hor with hm | hm
            · exact s'.sep ki k _ b1 hki' hm (by rw [← e1]; exact hri) (renBlk_live.2 hli) hk hrk hlk (by rw [← e1]; exact he.symm)
            · exact (s'.sep k ki b1 _ hk hm hrk hlk hki' (by rw [← e1]; exact hri) (renBlk_live.2 hli) (by rw [← e1]; exact he)).symm
          subst this
          have := back_low ki i hki
          rw [hkj] at this; cases this; rfl
        · exfalso
          obtain ⟨c, t, fz, vs, g1, _⟩ := (s.blk i b hi).ex hri
          have hsz := World.size_lt_of_heap g1
          -- a block of the given ones in that object
          have given : ∀ (k' : Nat) (b3 : Blk), (highBlks (posN ids) h ids)[k']? = some b3 → (locOf α ids k').real = true → b3.live → (locOf α ids k').b = (α i).b → (b.mu = true ∨ b3.mu = true) → False := fun k' b3 hk' hr' hl' he' hor' => by
            obtain ⟨j', bj', e1, e2, rfl⟩ := sub_get I hk'
            rw [locOf_at e1] at hr' he'
            rcases hor' with hm | hm
            · have := s.sep i j' b bj' hi hm hri hli e2 hr' (renBlk_live.1 hl') he'.symm
              subst this; exact hin (List.mem_of_getElem? e1)
            · have := s.sep j' i bj' b e2 hm hr' (renBlk_live.1 hl') hi hri hli he'
              subst this; exact hin (List.mem_of_getElem? e1)
          cases hb1 : b1.mu with
          | true =>
            rcases st.newb k b1 hk hb1 hrk hlk with g | ⟨k', b3, e1, e2, e3, e4, e5⟩
            · omega
            · exact given k' b3 e1 e3 e4 (by rw [e5, he]) (.inr e2)
          | false =>
            rcases Nat.lt_or_ge k ids.length with l1 | l1
            · obtain ⟨b3, hb3⟩ : ∃ b3, (highBlks (posN ids) h ids)[k]? = some b3 := ⟨_, List.getElem?_eq_getElem (by rw [hlen]; exact l1)⟩
              obtain ⟨b4, e1, e2, e3, e4, e5⟩ := st.shape k b3 hb3
              rw [hk] at e1; cases e1
              have e6 := st.al k (by rw [hlen]; exact l1)
              rw [e6] at hrk he
              refine given k b3 hb3 hrk (e5 hlk) he ?_
              rw [← e2]; exact hor
            · rw [hnew k b1 l1 hk] at hb1; cases hb1
    rcases from_ i bi hi with ⟨k1, b1, h1, h2, rfl⟩ | ⟨h1, h2, h3⟩ <;> rcases from_ j bj hj with ⟨k2, b3, g1, g2, rfl⟩ | ⟨g1, g2, g3⟩
    · rw [loc k1 i h1] at hri he
      rw [loc k2 j g1] at hrj he
      have := s'.sep k1 k2 b1 b3 h2 hm hri (renBlk_live.1 hli) g2 hrj (renBlk_live.1 hlj) he
      subst this
      rw [h1] at g1; cases g1; rfl
    · rw [loc k1 i h1] at hri he
      rw [old j g1] at hrj he
      exact (hA j bj g1 g2 g3 hrj hlj k1 b1 i h1 h2 hri (renBlk_live.1 hli) he (.inr hm)).symm
    · rw [old i h1] at hri he
      rw [loc k2 j g1] at hrj he
      exact hA i bi h1 h2 h3 hri hli k2 b3 j g1 g2 hrj (renBlk_live.1 hlj) he.symm (.inl hm)
    · rw [old i h1] at hri he
      rw [old j g1] at hrj he
      exact s.sep i j bi bj h2 hm hri hli g2 hrj hlj he
  · rcases from_ i b2 hi with ⟨k, b1, h1, h2, rfl⟩ | ⟨h1, h2, h3⟩
    · exact renSegs_WF ren (hwf' k b1 h2)
    · exact segsWF_shape (fun i b hi => let ⟨b', g1, _, g3, g4, _⟩ := shp i b hi; ⟨b', g1, g3, g4⟩) hlen2 (hwf i b2 h2)
end Ev

namespace Ev
open Go

/-- a summary is good -/
def Good (C : Cfg) (f : Nat) (S : Summ) : Prop := ∀ args h r, S args h = some r → CallS C f args h r.v r.h r.ws r.loud

theorem putBlks_nil {ρ : Nat → Option Nat} {ids : List Nat} {h' h : Heap} : putBlks ρ ids h' [] h = h := rfl

theorem liftS_ok {C : Cfg} {f : Nat} {S : Summ} (g : Good C f S) : Good C f (liftS C.glob.length S) := by
  intro args h r e
  unfold liftS at e
  simp only at e
  split at e
  rotate_left
  · cases e
  rename_i hG
  have hG := Nat.le_of_ble_eq_true hG
  split at e
  rotate_left
  · cases e
  rename_i hcl
  split at e
  rotate_left
  · cases e
  rename_i x hS
  have I : Ids C.glob.length h (liftIds C.glob.length args h) := visit_ids hG
  have cs := g _ _ _ hS
  have hlen : (highBlks (posN (liftIds C.glob.length args h)) h (liftIds C.glob.length args h)).length = (liftIds C.glob.length args h).length := highBlks_length
  split at e
  · split at e
    rotate_left
    · cases e
    rename_i hmu
    cases e
    refine ⟨cs.callable, fun i hi hil => ?_, (fun h => by cases h), ?_, fun α w vs hvs hwf hhw hg hs => ?_⟩
    · show (putBlks _ _ x.h x.ws h ++ _)[i]? = _
      rw [List.getElem?_append_left (by rw [putBlks_length]; exact hil)]
      exact putBlks_out fun k hk he => hi (mem_atIds.2 ⟨k, hk, he⟩)
    · show h.length ≤ (putBlks _ _ x.h x.ws h ++ _).length
      rw [List.length_append, putBlks_length]; omega
    · have sb := sub_ok I hhw hg hs
      refine Calls.mono (cs.run _ w vs (renAVs_ok sb.loc hvs) (renAVs_WF sb.ren hwf) sb.hwf sb.gl sb.sat) ?_
      rintro en w' ⟨u, α', rfl, h1, h2, h3, h4, h5⟩
      have L := lift_ok I hhw hs hcl h1 h2 h5 (ws := x.ws) (fun k hk hl => cs.wr k hk hl) (fun k b hk hb => by
        refine allB_ok hmu b (List.mem_of_getElem? (i := k - (liftIds C.glob.length args h).length) ?_)
        rw [List.getElem?_drop, ← hb]; congr 1; omega)
      exact ⟨u, _, rfl, L.stp, L.sat, renAV_ok L.loc h3, renAV_WF L.ren h4, L.hwf⟩
  · rename_i hq
    cases e
    have hxh : x.h = highBlks (posN (liftIds C.glob.length args h)) h (liftIds C.glob.length args h) := cs.quiet (by simpa using hq)
    refine ⟨cs.callable, fun i hi hil => rfl, fun _ => rfl, Nat.le_refl _, fun α w vs hvs hwf hhw hg hs => ?_⟩
    have sb := sub_ok I hhw hg hs
    refine Calls.mono (cs.run _ w vs (renAVs_ok sb.loc hvs) (renAVs_WF sb.ren hwf) sb.hwf sb.gl sb.sat) ?_
    rintro en w' ⟨u, α', rfl, h1, h2, h3, h4, h5⟩
    have L := lift_ok I hhw hs hcl h1 h2 h5 (ws := []) (fun k _ _ => by rw [hxh]) (fun k b hk hb => by
      have := lt_of_get hb; rw [hxh, hlen] at this; omega)
    have hh : liftH (liftIds C.glob.length args h) x.h [] h = h := by
      unfold liftH
      rw [putBlks_nil, hxh, List.drop_of_length_le (by rw [hlen]; exact Nat.le_refl _)]
      simp [renBlks]
    rw [hh] at L
    exact ⟨u, _, rfl, L.stp, L.sat, renAV_ok L.loc h3, renAV_WF L.ren h4, L.hwf⟩

def Goods (C : Cfg) (Φ : List (Nat × Summ)) : Prop := ∀ p ∈ Φ, Good C p.1 p.2

theorem Goods.nil {C : Cfg} : Goods C [] := fun _ h => by cases h

theorem Goods.cons {C : Cfg} {f : Nat} {S : Summ} {Φ : List (Nat × Summ)} (h : Good C f S) (hs : Goods C Φ) : Goods C ((f, S) :: Φ) := fun p hp => by
  rcases List.mem_cons.1 hp with rfl | hp
  · exact h
  · exact hs p hp

/-- what is known is right -/
structure Knows (C : Cfg) (Φ : Known) : Prop where
  fs : Goods C Φ.fs
  ls : LGoods C Φ.ls

theorem Knows.none (C : Cfg) : Knows C ⟨[], []⟩ := ⟨.nil, fun _ h => by cases h⟩
theorem Knows.f {C : Cfg} {Φ : Known} {f : Nat} {S : Summ} (k : Knows C Φ) (h : Good C f S) : Knows C ⟨(f, S) :: Φ.fs, Φ.ls⟩ := ⟨.cons h k.fs, k.ls⟩
theorem Knows.l {C : Cfg} {Φ : Known} {f : Nat} {T : LT} (k : Knows C Φ) (h : ∀ q ∈ T, LGood C f q.1 q.2) : Knows C ⟨Φ.fs, (f, T) :: Φ.ls⟩ := ⟨k.fs, fun p hp => by
  rcases List.mem_cons.1 hp with rfl | hp
  · exact h
  · exact k.ls p hp⟩

theorem evCall_ok {β : Type} {C : Cfg} (P : ProgOk C.P) {Φ : Known} (G : Knows C Φ) (lf : Nat) : ∀ (d : Nat), CallOk C (evCall (β := β) C Φ lf d)
  | 0 => fun f args h K r e => by simp [evCall] at e
  | d + 1 => fun f args h K r e => by
    simp only [evCall] at e
    split at e
    · rename_i S hS
      have hm := lookup_mem hS
      rw [Option.bind_eq_some_iff] at e
      obtain ⟨x, hx, e1⟩ := e
      exact ⟨_, _, _, _, e1, liftS_ok (G.fs _ hm) args h x hx⟩
    · exact evFn_ok P (evCall_ok P G lf d) G.ls e

theorem ev_good {C : Cfg} (P : ProgOk C.P) {Φ : Known} (G : Knows C Φ) (lf : Nat) (f : FuncId) : Good C f (ev C Φ lf f) := by
  intro args h r e
  obtain ⟨v, h', ws, l, e1, hs⟩ := evFn_ok P (evCall_ok P G lf 20) G.ls e
  cases e1
  exact hs

theorem evL_step {C : Cfg} (P : ProgOk C.P) {Φ : Known} (G : Knows C Φ) {lf : Nat} {f k base : Nat} {keep : List Nat} {s s1 : St} {e : Ex} (h : evL C Φ lf f k base keep s = some (e, s1)) : LStep C f k base s e s1 := by
  intro L hL
  unfold evL at h
  obtain ⟨L', hL', h⟩ := optK_inv h
  have : L' = L := by rw [hL] at hL'; exact (Option.some.inj hL').symm
  subst this
  have hT : TOk C base (lookupL Φ.ls f) (k + 1) L' := G.ls.tok fun j M hj => by
    unfold loopAt at hL ⊢
    split at hL
    · split at hL
      · exact loopsOf_inner hL j M hj
      · cases hL
    · cases hL
  obtain ⟨ex, s2, he, hw, hr⟩ := evCM_ok (base := base) P (evCall_ok P G lf 20) lf 1000 (k + 1) L' hT _ _ _ h
  simp only [Option.some.injEq, Prod.mk.injEq] at he
  obtain ⟨rfl, rfl⟩ := he
  refine ⟨hw.trans (gcSt_wr base keep s2), fun α0 h0 w0 hbs hwf0 hg0 Q hQ α a w R => hr α0 h0 w0 hbs hwf0 hg0 Q (fun α' a' w' R' => ?_) α a w R⟩
  obtain ⟨α'', R''⟩ := R'.gc hwf0 hg0 keep
  rw [hbs] at R''
  exact hQ α'' a' w' R''
end Ev
