/- StoreLists: what is put, which keys begin so: plain lemmas. -/
import Derived.Test.YthfdbllpofiabaaDoorS14
namespace Go.Proofs.BoatV
open Go
set_option linter.unusedVariables false
def hasR (hs : List Bool) : AO := .row (hs.map .bool)
theorem clH (hs : List Bool) : ClO (hasR hs) := ClO.row (closedL_map (fun _ => rfl) hs)
theorem inE_iff {k : Str} {es : List EntS} : inE k es = true ↔ k ∈ keysE es := by
  unfold inE keysE
  simp only [List.any_eq_true, decide_eq_true_eq, List.mem_map]
  exact ⟨fun ⟨e, h1, h2⟩ => ⟨e, h1, h2.symm⟩, fun ⟨e, h1, h2⟩ => ⟨e, h1, h2.symm⟩⟩
structure InvL (hs : List Bool) (es : List EntS) : Prop where
  len : hs.length = 100
  nd : (keysE es).Nodup
  mem : ∀ key, key ∈ keysE es ↔ ∃ k, hs[k]? = some true ∧ key = keyN 107 k
theorem InvL.lt {hs : List Bool} {es : List EntS} (h : InvL hs es) {k : Nat} {b : Bool} (hk : hs[k]? = some b) : k < 100 := by
  have := (List.getElem?_eq_some_iff.1 hk).1
  rw [h.len] at this; exact this
theorem InvL.at {hs : List Bool} {es : List EntS} (h : InvL hs es) {k : Nat} {b : Bool} (hk : hs[k]? = some b) : inE (keyN 107 k) es = b := by
  have hlt := h.lt hk
  cases b with
  | true => exact inE_iff.2 ((h.mem _).2 ⟨k, hk, rfl⟩)
  | false =>
    rw [Bool.eq_false_iff]
    intro hin
    obtain ⟨j, h1, h2⟩ := (h.mem _).1 (inE_iff.1 hin)
    have hj := h.lt h1
    have := keyN_inj (by omega) (by omega) h2
    subst this
    rw [hk] at h1; cases h1
theorem keysE_app (es : List EntS) (e : EntS) : keysE (es ++ [e]) = keysE es ++ [e.1] := by simp [keysE]
theorem InvL.step {hs : List Bool} {es : List EntS} (h : InvL hs es) {k : Nat} (hk : hs[k]? = some false) (d : Str) (t : Int) : InvL (hs.set k true) (es ++ [(keyN 107 k, d, t)]) := by
  have hlt : k < hs.length := (List.getElem?_eq_some_iff.1 hk).1
  have hn : keyN 107 k ∉ keysE es := fun hin => by
    have := h.at hk
    rw [inE_iff.2 hin] at this; cases this
  refine ⟨by simp [h.len], ?_, fun key => ?_⟩
  · rw [keysE_app, List.nodup_append]
    refine ⟨h.nd, by simp, fun a ha b hb => ?_⟩
    rw [List.mem_singleton.1 hb]
    rintro rfl
    exact hn ha
  · rw [keysE_app, List.mem_append, h.mem]
    constructor
    · rintro (⟨j, h1, rfl⟩ | h1)
      · refine ⟨j, ?_, rfl⟩
        rw [List.getElem?_set]
        by_cases hjk : k = j
        · subst hjk; rw [hk] at h1; cases h1
        · rw [if_neg hjk]; exact h1
      · refine ⟨k, ?_, List.mem_singleton.1 h1⟩
        rw [List.getElem?_set, if_pos rfl, if_pos hlt]
    · rintro ⟨j, h1, rfl⟩
      rw [List.getElem?_set] at h1
      by_cases hjk : k = j
      · subst hjk; exact .inr (by simp)
      · rw [if_neg hjk] at h1; exact .inl ⟨j, h1, rfl⟩
theorem set_same {hs : List Bool} {k : Nat} (hk : hs[k]? = some true) : hs.set k true = hs := by
  apply List.ext_getElem?
  intro i
  rw [List.getElem?_set]
  by_cases h : k = i
  · subst h; rw [if_pos rfl, if_pos (List.getElem?_eq_some_iff.1 hk).1, hk]
  · rw [if_neg h]
theorem InvL.start : InvL (List.replicate 100 false) [] := ⟨by simp, by simp [keysE], fun key => by
  simp only [keysE, List.map_nil, List.not_mem_nil, false_iff]
  rintro ⟨k, h, _⟩
  rw [List.getElem?_replicate] at h
  split at h <;> simp at h⟩

/-! ### How many -/
def wantB (hs : List Bool) (p : Str) (k : Nat) : Bool := hs.getD k false && pre p (keyN 107 k)
def cntP (hs : List Bool) (p : Str) (j : Nat) : Nat := ((List.range j).filter (wantB hs p)).length
theorem cntP_le (hs : List Bool) (p : Str) (j : Nat) : cntP hs p j ≤ j := by
  unfold cntP
  refine Nat.le_trans (List.length_filter_le _ _) (by simp)
theorem cntP_succ (hs : List Bool) (p : Str) (j : Nat) : cntP hs p (j + 1) = cntP hs p j + if wantB hs p j then 1 else 0 := by
  unfold cntP
  rw [List.range_succ, List.filter_append, List.length_append]
  congr 1
  cases h : wantB hs p j <;> simp [h]
theorem InvL.perm {hs : List Bool} {es : List EntS} (h : InvL hs es) : (keysE es).Perm (((List.range 100).filter fun k => hs.getD k false).map (keyN 107)) := by
  have hgd : ∀ k, hs.getD k false = true ↔ hs[k]? = some true := fun k => by
    rw [List.getD_eq_getElem?_getD]
    cases hs[k]? <;> simp
  refine (List.perm_ext_iff_of_nodup h.nd ?_).2 fun key => ?_
  · rw [List.Nodup, List.pairwise_map]
    have hr : ((List.range 100).filter fun k => hs.getD k false).Pairwise (· ≠ ·) := List.Pairwise.filter _ List.nodup_range
    refine List.Pairwise.imp_of_mem (fun {a b} ha hb hab e => hab ?_) hr
    have ha' := List.mem_range.1 (List.mem_filter.1 ha).1
    have hb' := List.mem_range.1 (List.mem_filter.1 hb).1
    exact keyN_inj (by omega) (by omega) e
  · rw [h.mem, List.mem_map]
    constructor
    · rintro ⟨k, h1, rfl⟩
      exact ⟨k, List.mem_filter.2 ⟨List.mem_range.2 (h.lt h1), (hgd k).2 h1⟩, rfl⟩
    · rintro ⟨k, h1, rfl⟩
      exact ⟨k, (hgd k).1 (List.mem_filter.1 h1).2, rfl⟩
theorem InvL.count {hs : List Bool} {es : List EntS} (h : InvL hs es) (p : Str) : (objs es p).length = cntP hs p 100 := by
  simp only [objs, List.length_map]
  have h1 : ((isort (keysE es)).filter (pre p)).Perm ((((List.range 100).filter fun k => hs.getD k false).map (keyN 107)).filter (pre p)) := ((isort_perm _).trans h.perm).filter _
  rw [h1.length_eq, List.filter_map, List.length_map, List.filter_filter]
  unfold cntP
  congr 2
  funext k
  simp only [wantB, Function.comp]
  rw [Bool.and_comm]

/-! ### They stand in order -/
theorem less_lt : ∀ {x y : Str}, Op.bytesLess x y = ltS x y
  | [], [] => rfl
  | [], b :: s => rfl
  | a :: r, [] => rfl
  | a :: r, b :: s => by
    have ih := less_lt (x := r) (y := s)
    simp only [Op.bytesLess, ltS, ih]
    cases hb : Nat.blt a.toNat b.toNat with
    | true =>
      have h : a < b := UInt8.lt_iff_toNat_lt.2 (Nat.blt_eq.mp hb)
      simp [h]
    | false =>
      have h : ¬ a < b := fun h => by
        have h2 := Nat.blt_eq.mpr (UInt8.lt_iff_toNat_lt.1 h)
        rw [hb] at h2; cases h2
      cases he : Nat.beq a.toNat b.toNat with
      | true =>
        have h3 : a = b := UInt8.toNat_inj.1 (Nat.eq_of_beq_eq_true he)
        simp [h3]
      | false =>
        have h3 : ¬ a = b := fun h => by subst h; rw [Nat.beq_refl] at he; cases he
        simp [h, h3]
theorem InvL.sorted {hs : List Bool} {es : List EntS} (h : InvL hs es) (p : Str) : ((objs es p).map (·.1)).Pairwise (· < ·) := by
  have e : (objs es p).map (·.1) = (isort (keysE es)).filter (pre p) := by
    simp only [objs, List.map_map]
    conv => rhs; rw [← List.map_id ((isort (keysE es)).filter (pre p))]
    rfl
  rw [e]
  refine List.Pairwise.filter _ ?_
  have h1 := isort_sorted (keysE es)
  have h2 : (isort (keysE es)).Nodup := (isort_perm _).nodup_iff.2 h.nd
  refine (h1.and h2).imp fun {a b} hab => ?_
  rcases Decidable.em (a < b) with hl | hl
  · exact hl
  · exact absurd (List.le_antisymm hab.1 (List.not_lt.1 hl)) hab.2
theorem InvL.noZ {hs : List Bool} {es : List EntS} (h : InvL hs es) : objs es [122] = [] := by
  have : (isort (keysE es)).filter (pre [122]) = [] := by
    rw [List.filter_eq_nil_iff]
    intro k hk
    obtain ⟨j, _, rfl⟩ := (h.mem _).1 ((isort_perm _).mem_iff.1 hk)
    simp [pre, keyN]
  simp [objs, this]
theorem InvL.fit {hs : List Bool} {es : List EntS} (h : InvL hs es) (hl : es.length ≤ 60) (m c : Int) (p : Str) : fitAll ((⟨m, c, es, []⟩ : StD), p) := by
  have := fitAll_short (s := ⟨m, c, es, []⟩) (fun e he => by
    obtain ⟨j, _, hj⟩ := (h.mem e.1).1 (List.mem_map_of_mem he)
    rw [hj]; have := keyN_len 107 j; omega) (by simp only; omega)
  exact this

/-! ### Steps -/
theorem op_idxH (j i : Nat) (h : i < 100) : opK (.idxA 1) [.sl j 0 100 1 (some 100), .int .i64 (i : Int)] = some (.ptr j (0 + i * 1)) := by
  have : (i : Int) < 100 := by omega
  simp [opK, this]
theorem op_loadH (hs : List Bool) (i : Nat) (b : Bool) (h : hs[i]? = some b) : opP (.load none) [.ptr 0 (0 + i * 1)] [hasR hs] = some (.bool b) := by
  have h2 : ((hs.map AV.bool).drop i).head? = some (.bool b) := by
    rw [List.head?_drop]; simp [h]
  simp [opP, HKey.quiet, opH, hasR, rowAt, h2]
theorem setAt_one : ∀ (l : List AV) (i : Nat) (v : AV), i < l.length → setAt l i [v] = some (l.set i v)
  | [], i, v, h => by simp at h
  | x :: l, 0, v, h => by simp [setAt]
  | x :: l, i + 1, v, h => by simp [setAt, setAt_one l i v (by simpa using h)]
theorem op_storH (hs : List Bool) (i : Nat) (b : Bool) (h : i < hs.length) : opH (.stor 1) [.ptr 0 (0 + i * 1), .bool b] [hasR hs] = some (.undef, [hasR (hs.set i b)]) := by
  have h1 := setAt_one (hs.map .bool) i (.bool b) (by simpa using h)
  simp only [opH, AV.cells, List.length_singleton, if_true, storeAt, rowAt, hasR, List.getElem?_cons_zero, allOne, AV.one, Bool.and_self, Nat.zero_add, Nat.mul_one, h1, Option.map_some, List.set_cons_zero, List.map_set]
theorem rowO_get : ∀ (O : List EntS) (i : Nat) (e : EntS) (d : Nat), d < 3 → O[i]? = some e → (rowO O)[i * 3 + d]? = (cellsO e)[d]?
  | [], i, e, d, h, he => by simp at he
  | x :: O, 0, e, d, h, he => by
    simp at he; subst he
    simp only [rowO, List.flatMap_cons, Nat.zero_mul, Nat.zero_add]
    rw [List.getElem?_append_left (by simp [cellsO]; omega)]
  | x :: O, i + 1, e, d, h, he => by
    have ih := rowO_get O i e d h (by simpa using he)
    simp only [rowO, List.flatMap_cons] at ih ⊢
    rw [List.getElem?_append_right (by simp [cellsO]; omega), ← ih]
    congr 1
    simp [cellsO]; omega
theorem op_loadO (O : List EntS) (i d : Nat) (e : EntS) (v : AV) (h : O[i]? = some e) (hd : d < 3) (hv : (cellsO e)[d]? = some v) : opP (.load none) [.ptr 0 (0 + i * 3 + d)] [.row (rowO O)] = some v := by
  have h1 := rowO_get O i e d hd h
  rw [hv] at h1
  have h2 : ((rowO O).drop (i * 3 + d)).head? = some v := by rw [List.head?_drop]; exact h1
  simp only [opP, HKey.quiet, if_true, opH, rowAt, List.getElem?_cons_zero, Nat.zero_add, h2, Option.map_some]
theorem op_take (s : Str) (n : Nat) (h : n ≤ s.length) : opK (.slc none false true false) [.str s, .int .i64 (n : Int)] = some (.str (s.take n)) := by
  simp [opK, take1, slcK, boundA, h]
theorem op_eqlS {a b : Str} {r : Bool} (h : (a == b) = r) : opK (.bin .eql) [.str a, .str b] = some (.bool r) := by subst h; simp [opK, strOp]
theorem op_neqS {a b : Str} {r : Bool} (h : (!(a == b)) = r) : opK (.bin .neq) [.str a, .str b] = some (.bool r) := by subst h; simp [opK, strOp]
theorem op_geqS {a b : Str} (h : a < b) : opK (.bin .geq) [.str a, .str b] = some (.bool false) := by
  have : Op.bytesLess a b = true := by rw [less_lt]; exact ltS_iff.2 h
  simp [opK, strOp, this]
end Go.Proofs.BoatV
