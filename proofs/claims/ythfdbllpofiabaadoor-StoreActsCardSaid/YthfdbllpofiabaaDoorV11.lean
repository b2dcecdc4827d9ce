/- Sets of numbers as bits; what may come up; parts of a memory. -/
import Derived.Test.YthfdbllpofiabaaDoorV10
namespace Go.Proofs.BoatV
open Go
set_option linter.unusedVariables false
set_option linter.unusedSimpArgs false

/-! ### Bits -/
theorem bitIn_eq (L i : Nat) : bitIn L i = L.testBit i := by
  have e : bitIn L i = ((L >>> i) % 2 == 1) := by
    have : Nat.land (Nat.shiftRight L i) 1 = (L >>> i) % 2 := Nat.and_one_is_mod _
    simp only [bitIn, this]
    rw [Bool.eq_iff_iff]
    simp [Nat.beq_eq]
  rw [e, Nat.testBit]
  have h : 1 &&& (L >>> i) = (L >>> i) % 2 := by rw [Nat.and_comm]; exact Nat.and_one_is_mod _
  rw [h]
  rcases Nat.mod_two_eq_zero_or_one (L >>> i) with h | h <;> simp [h]

theorem bitIn_add (L i k : Nat) : bitIn (addBit L i) k = (bitIn L k || decide (k = i)) := by
  rw [bitIn_eq, bitIn_eq]
  show (L ||| (1 <<< i)).testBit k = _
  rw [Nat.testBit_or, Nat.one_shiftLeft, Nat.testBit_two_pow]
  congr 1
  simp [eq_comm]

theorem bitIn_zero (k : Nat) : bitIn 0 k = false := by rw [bitIn_eq]; simp

theorem bitIn_mask : ∀ (l : List Nat) (k : Nat), bitIn (maskOf l) k = true ↔ k ∈ l
  | [], k => by simp [maskOf, bitIn_zero]
  | i :: r, k => by simp [maskOf, bitIn_add, bitIn_mask r k, or_comm]

theorem meet_iff (a b : Nat) : meet a b = true ↔ ∃ k, bitIn a k = true ∧ bitIn b k = true := by
  have e : meet a b = true ↔ a &&& b ≠ 0 := by
    simp only [meet]
    show (!Nat.beq (a &&& b) 0) = true ↔ _
    cases h : Nat.beq (a &&& b) 0 with
    | true => have := Nat.eq_of_beq_eq_true h; simp [this]
    | false => have := Nat.ne_of_beq_eq_false h; simp [this]
  rw [e]
  constructor
  · intro h
    obtain ⟨i, hi⟩ := Nat.exists_testBit_of_ne_zero h
    rw [Nat.testBit_and, Bool.and_eq_true] at hi
    exact ⟨i, by rw [bitIn_eq]; exact hi.1, by rw [bitIn_eq]; exact hi.2⟩
  · rintro ⟨k, h1, h2⟩ h0
    rw [bitIn_eq] at h1 h2
    have : (a &&& b).testBit k = true := by rw [Nat.testBit_and, h1, h2]; rfl
    rw [h0] at this; simp at this

theorem sub_iff (a L : Nat) : Nat.beq (Nat.land a L) a = true ↔ ∀ k, bitIn a k = true → bitIn L k = true := by
  have e : Nat.beq (Nat.land a L) a = true ↔ a &&& L = a := ⟨Nat.eq_of_beq_eq_true, fun h => by show Nat.beq (a &&& L) a = true; rw [h]; exact Nat.beq_refl a⟩
  rw [e]
  constructor
  · intro h k hk
    rw [bitIn_eq] at hk ⊢
    rw [← h, Nat.testBit_and, Bool.and_eq_true] at hk
    exact hk.2
  · intro h
    apply Nat.eq_of_testBit_eq
    intro i
    rw [Nat.testBit_and]
    cases hi : a.testBit i with
    | false => rfl
    | true => have := h i (by rw [bitIn_eq]; exact hi); rw [bitIn_eq] at this; rw [this]; rfl

/-! ### What may come up -/
def LRel (ops : Array Oper) (L : Nat) (l : Array Bool) : Prop := l.size = ops.size ∧ ∀ i, l.getD i false = bitIn L i

theorem LRel.zero (ops : Array Oper) : LRel ops 0 (Array.replicate ops.size false) := ⟨by simp, fun i => by
  rw [bitIn_zero]
  rcases Nat.lt_or_ge i ops.size with h | h
  · simp [h]
  · simp [Array.getElem?_eq_none, h]⟩

theorem LRel.set {ops : Array Oper} {L : Nat} {l : Array Bool} (h : LRel ops L l) {j : Nat} (hj : j < ops.size) : LRel ops (addBit L j) (l.setIfInBounds j true) := by
  refine ⟨by simp [h.1], fun i => ?_⟩
  rw [bitIn_add]
  by_cases hij : j = i
  · subst hij; simp [h.1, hj]
  · rw [getD_set_ne false hij, h.2 i]
    have : decide (i = j) = false := by simp; exact fun e => hij e.symm
    rw [this, Bool.or_false]

theorem LRel.getD_true {ops : Array Oper} {L : Nat} {l : Array Bool} (h : LRel ops L l) {j : Nat} (hj : j < ops.size) : l.getD j true = bitIn L j := by
  rw [← h.2 j]; simp [h.1, hj]

theorem mem_readyM : ∀ (S : List Sum) (L i j : Nat), j ∈ readyM L i S ↔ i ≤ j ∧ ∃ s, S[j - i]? = some s ∧ readyAt L j s = true
  | [], L, i, j => by simp [readyM]
  | s :: r, L, i, j => by
    have ih := mem_readyM r L (i + 1) j
    have key : j ∈ readyM L i (s :: r) ↔ (j = i ∧ readyAt L i s = true) ∨ j ∈ readyM L (i + 1) r := by
      simp only [readyM]
      split
      · rename_i h; simp [h]
      · rename_i h; simp [h]
    rw [key, ih]
    constructor
    · rintro (⟨rfl, h⟩ | ⟨h1, s', h2, h3⟩)
      · exact ⟨Nat.le_refl _, s, by simp, h⟩
      · refine ⟨by omega, s', ?_, h3⟩
        rw [show j - i = (j - (i + 1)) + 1 by omega]; simpa using h2
    · rintro ⟨h1, s', h2, h3⟩
      rcases Nat.eq_or_lt_of_le h1 with rfl | h
      · left; simp at h2; subst h2; exact ⟨rfl, h3⟩
      · right; refine ⟨by omega, s', ?_, h3⟩
        rw [show j - i = (j - (i + 1)) + 1 by omega] at h2; simpa using h2

theorem sums_get (ops : Array Oper) (j : Nat) : (ops.toList.map (sumOf ops.toList))[j]? = (ops[j]?).map (sumOf ops.toList) := by simp

theorem deps_iff (ops : Array Oper) (o : Oper) (j k : Nat) (hj : ops[j]? = some o) : bitIn (sumOf ops.toList o).deps k = true ↔ dep ops j k := by
  simp only [sumOf, bitIn_mask, depsOf, List.mem_map, List.mem_filter]
  constructor
  · rintro ⟨e, ⟨he, hb⟩, rfl⟩; exact ⟨o, hj, e, by simpa using he, hb, rfl⟩
  · rintro ⟨o', ho', e, he, hb, rfl⟩
    rw [hj] at ho'; cases ho'
    exact ⟨e, ⟨by simpa using he, hb⟩, rfl⟩

theorem ready_iff {ops : Array Oper} {L : Nat} {l : Array Bool} (h : LRel ops L l) (j : Nat) : j ∈ readyM L 0 (ops.toList.map (sumOf ops.toList)) ↔ j ∈ Region.ready .any ops l := by
  rw [mem_readyM, mem_ready]
  simp only [Nat.zero_le, true_and, Nat.sub_zero, sums_get, Option.map_eq_some_iff]
  constructor
  · rintro ⟨s, ⟨o, ho, rfl⟩, hr⟩
    have hlt : j < ops.size := (Array.getElem?_eq_some_iff.1 ho).1
    simp only [readyAt, Bool.and_eq_true, Bool.not_eq_true', sub_iff] at hr
    refine ⟨by rw [h.getD_true hlt]; exact hr.1, o, ho, fun e he hb => ?_⟩
    rw [h.2]
    exact hr.2 _ ((deps_iff ops o j e.on ho).2 ⟨o, ho, e, he, hb, rfl⟩)
  · rintro ⟨h0, o, ho, hall⟩
    have hlt : j < ops.size := (Array.getElem?_eq_some_iff.1 ho).1
    refine ⟨_, ⟨o, ho, rfl⟩, ?_⟩
    simp only [readyAt, Bool.and_eq_true, Bool.not_eq_true', sub_iff]
    refine ⟨by rw [← h.getD_true hlt]; exact h0, fun k hk => ?_⟩
    obtain ⟨o', ho', e, he, hb, rfl⟩ := (deps_iff ops o j k ho).1 hk
    rw [ho] at ho'; cases ho'
    rw [← h.2]; exact hall e he hb

theorem looks_eq (ops : Array Oper) (o : Oper) : looksOf ops.toList o = o.looksAt ops := by
  simp only [looksOf, Oper.looksAt, Array.getElem?_toList]
  congr 1

theorem freeM_spec : ∀ (S : List Sum) (L i : Nat) (si : Sum) (j0 : Nat), freeM L i si j0 S = true → ∀ j s, S[j]? = some s → (j0 + j = i ∨ bitIn L (j0 + j) = true ∨ bitIn s.deps i = true ∨ (meet si.dst s.looks = false ∧ meet si.dst s.dst = false ∧ meet s.dst si.looks = false))
  | [], L, i, si, j0, h, j, s, hj => by simp at hj
  | s0 :: r, L, i, si, j0, h, j, s, hj => by
    simp only [freeM, Bool.and_eq_true, Bool.or_eq_true, Bool.not_eq_true', Bool.or_eq_false_iff] at h
    cases j with
    | zero =>
      simp at hj; subst hj
      rcases h.1 with ((h1 | h1) | h1) | h1
      · left; simpa using Nat.eq_of_beq_eq_true h1
      · right; left; simpa using h1
      · right; right; left; exact h1
      · right; right; right; exact ⟨h1.1.1, h1.1.2, h1.2⟩
    | succ j =>
      have := freeM_spec r L i si (j0 + 1) h.2 j s (by simpa using hj)
      rwa [show j0 + 1 + j = j0 + (j + 1) by omega] at this

theorem meet_dst {ops : Array Oper} {o : Oper} {m : Nat} (h : meet (sumOf ops.toList o).dst m = false) {d : Nat} (hd : o.dst = some d) : bitIn m d = false := by
  cases hb : bitIn m d with
  | false => rfl
  | true =>
    have : meet (sumOf ops.toList o).dst m = true := (meet_iff _ _).2 ⟨d, by simp [sumOf, bitIn_mask, hd], hb⟩
    rw [this] at h; cases h

theorem looks_mem {ops : Array Oper} {o : Oper} {d : Nat} : bitIn (sumOf ops.toList o).looks d = true ↔ d ∈ o.looksAt ops := by
  simp only [sumOf, bitIn_mask, looks_eq]

theorem apart_of {ops : Array Oper} {x y : Oper} (h1 : meet (sumOf ops.toList x).dst (sumOf ops.toList y).looks = false) (h2 : meet (sumOf ops.toList x).dst (sumOf ops.toList y).dst = false)
    (h3 : meet (sumOf ops.toList y).dst (sumOf ops.toList x).looks = false) : x.apart ops y = true := by
  have a1 : ∀ d, x.dst = some d → d ∉ y.looksAt ops := fun d hd hm => by have := meet_dst h1 hd; rw [looks_mem.2 hm] at this; cases this
  have a3 : ∀ d, y.dst = some d → d ∉ x.looksAt ops := fun d hd hm => by have := meet_dst h3 hd; rw [looks_mem.2 hm] at this; cases this
  have a2 : ∀ d, x.dst = some d → y.dst ≠ some d := fun d hd hy => by
    have := meet_dst h2 hd
    have h4 : bitIn (sumOf ops.toList y).dst d = true := by simp [sumOf, bitIn_mask, hy]
    rw [h4] at this; cases this
  unfold Oper.apart
  cases hx : x.dst with
  | none =>
    cases hy : y.dst with
    | none => rfl
    | some d => simpa using a3 d hy
  | some d =>
    have b1 := a1 d hx
    have b2 := a2 d hx
    cases hy : y.dst with
    | none => simpa using b1
    | some e =>
      have b3 := a3 e hy
      rw [hy] at b2
      simp only [Bool.and_eq_true, Bool.not_eq_true', List.contains_eq_mem, decide_eq_false_iff_not, bne_iff_ne]
      exact ⟨⟨b1, b2⟩, b3⟩

theorem free_of {ops : Array Oper} {L : Nat} {l : Array Bool} (h : LRel ops L l) {i : Nat} {oi : Oper} (hf : freeM L i (sumOf ops.toList oi) 0 (ops.toList.map (sumOf ops.toList)) = true) (hi : ops[i]? = some oi) :
    ∀ j oj, ops[j]? = some oj → j ≠ i → l.getD j true = false → (∀ e ∈ oj.after, Region.binds .any e = true → e.on ≠ i) → oi.apart ops oj = true := by
  intro j oj hj hji hun hno
  have hlt : j < ops.size := (Array.getElem?_eq_some_iff.1 hj).1
  have := freeM_spec _ L i _ 0 hf j (sumOf ops.toList oj) (by rw [sums_get, hj]; rfl)
  rw [Nat.zero_add] at this
  rcases this with h1 | h1 | h1 | ⟨h1, h2, h3⟩
  · exact absurd h1 hji
  · rw [h.getD_true hlt, h1] at hun; cases hun
  · obtain ⟨o', ho', e, he, hb, heq⟩ := (deps_iff ops oj j i hj).1 h1
    rw [hj] at ho'; cases ho'
    exact absurd heq (hno e he hb)
  · exact apart_of h1 h2 h3

theorem guard_known {T : Tab} {ops : List Oper} {fr : Fr} {o : Oper} (h : wantedA T ops fr o = true) : topGuard T ops fr o = false := by
  unfold wantedA at h
  unfold topGuard
  split
  · rfl
  · rename_i j want hg
    simp only [hg] at h
    split
    · rename_i d hd
      simp only [hd] at h
      split
      · rename_i t sc ids hx
        simp only [hx] at h
        cases hf : findB T .idB [.hid t sc ids] with
        | none => simp [hf] at h
        | some b => rfl
      · rename_i hx; simp [hx] at h
      · rfl
    · rfl

theorem wanted_eq {T : Tab} {w : World} {L : Env} (hT : OpsOK L T) {β : List Nat} {fr : Fr} {a : Act} (hF : FrRep w L β fr a.tmps) (ops : Array Oper) (o : Oper) (hng : topGuard T ops.toList fr o = false) : wantedA T ops.toList fr o = Region.wanted o (yielded ops a.tmps) := by
  unfold wantedA Region.wanted
  split
  · rename_i hg; simp [hg]
  · rename_i j want hg
    simp only [topGuard, hg, Array.getElem?_toList] at hng
    simp only [hg, yielded, Array.getElem?_toList]
    cases hd : (ops[j]?).bind (·.dst) with
    | none => simp
    | some d =>
      simp only [Option.bind_some]
      simp only [hd] at hng
      have hv := hF.val d
      rcases Nat.lt_or_ge d a.tmps.size with hlt | hge
      · rw [Array.getElem?_eq_getElem hlt]
        have e : a.tmps.getD d undef = a.tmps[d] := by simp [hlt]
        rw [e] at hv
        generalize a.tmps[d] = u at hv
        generalize fget fr d = x at hv hng
        cases x with
        | hid t sc ids =>
          simp only [Option.isNone_eq_false_iff, Option.isSome_iff_exists] at hng
          obtain ⟨b, hb⟩ := hng
          have := idB_ok hT hb hv
          subst this
          simp [hb]
        | top => simp at hng
        | _ => cases hv <;> simp_all [undef]
      · rw [Array.getElem?_eq_none hge]
        have e : a.tmps.getD d undef = undef := by simp [hge]
        rw [e] at hv
        generalize hu : undef = u at hv
        generalize fget fr d = x at hv hng
        cases x with
        | hid t sc ids =>
          simp only [Option.isNone_eq_false_iff, Option.isSome_iff_exists] at hng
          obtain ⟨b, hb⟩ := hng
          have := idB_ok hT hb hv
          subst this
          simp [undef] at hu
        | top => simp at hng
        | _ => cases hv <;> simp_all [undef]

end Go.Proofs.BoatV
