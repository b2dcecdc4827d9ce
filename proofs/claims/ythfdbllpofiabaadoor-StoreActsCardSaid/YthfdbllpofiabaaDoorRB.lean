/- Both stores: what holds between them, one act on both (R6, R7, R8 joined). -/
import Derived.Test.YthfdbllpofiabaaDoorRA
/- StoreActs: what holds between the program's store and the reference's: plain lemmas. -/
namespace Go.Proofs.BoatV
open Go
set_option linter.unusedVariables false
def calledR (r : RfD) : RfD := if r.owed > 0 then { r with calls := inc r.calls, owed := IntKind.i64.wrap (r.owed - 1) } else { r with calls := inc r.calls }
abbrev SortedE (os : List EntS) : Prop := os.Pairwise fun a b => a.1 < b.1
structure Rel (s : StD) (r : RfD) : Prop where
  most : r.most = s.most
  calls : r.calls = s.calls
  owed : (s.owed = [] ∧ r.owed = 0) ∨ ∃ n, 0 < n ∧ n ≤ 9223372036854775807 ∧ s.owed = [n] ∧ r.owed = n
  perm : (osL r.sh).Perm s.es
  sorted : SortedE (osL r.sh)
  key : ∀ e ∈ s.es, e.1.length ≤ 64
  len : s.es.length ≤ 4096
  top : s.most ≤ 4096
theorem rel_called {s : StD} {r : RfD} (h : Rel s r) : (called s).1 = decide (r.owed > 0) ∧ Rel (called s).2 (calledR r) := by
  obtain ⟨m, c, es, o⟩ := s
  obtain ⟨m', sh, o', c'⟩ := r
  have hm := h.most; have hc := h.calls
  simp only at hm hc
  subst hm; subst hc
  rcases h.owed with ⟨h1, h2⟩ | ⟨n, h1, h2, h3, h4⟩
  · simp only at h1 h2; subst h1; subst h2
    refine ⟨rfl, ?_⟩
    exact ⟨rfl, rfl, .inl ⟨rfl, rfl⟩, h.perm, h.sorted, h.key, h.len, h.top⟩
  · simp only at h3 h4; subst h3; subst h4
    have hw : IntKind.i64.wrap (o' - 1) = o' - 1 := by rw [IntKind.wrap_i64]; omega
    have e : calledR ⟨m', sh, o', c'⟩ = ⟨m', sh, o' - 1, inc c'⟩ := by simp only [calledR, h1, gt_iff_lt, if_true, hw]
    refine ⟨by simp [BoatV.called, h1], ?_⟩
    rw [e]
    refine ⟨rfl, rfl, ?_, h.perm, h.sorted, h.key, h.len, h.top⟩
    by_cases h5 : o' - 1 > 0
    · refine .inr ⟨o' - 1, h5, by omega, ?_, rfl⟩
      simp only [BoatV.called, owe, hw, if_pos h5]
    · refine .inl ⟨?_, by simp only; omega⟩
      simp only [BoatV.called, owe, hw, if_neg h5]
theorem called_keep (s : StD) : (called s).2.most = s.most ∧ (called s).2.es = s.es := by
  unfold called
  split <;> exact ⟨rfl, rfl⟩
theorem calledR_keep (r : RfD) : (calledR r).most = r.most ∧ (calledR r).sh = r.sh := by
  unfold calledR
  split <;> exact ⟨rfl, rfl⟩

/-! ### Places -/
theorem less_iff {a b : Str} : Op.bytesLess a b = true ↔ a < b := by rw [less_lt]; exact ltS_iff
theorem lt_ne {a b : Str} (h : a < b) : a ≠ b := fun e => by subst e; exact List.lt_irrefl _ h
theorem uniqE : ∀ {os : List EntS}, SortedE os → ∀ {a b : EntS}, a ∈ os → b ∈ os → a.1 = b.1 → a = b
  | [], _, a, b, ha, _, _ => by cases ha
  | x :: r, h, a, b, ha, hb, e => by
    rw [SortedE, List.pairwise_cons] at h
    rcases List.mem_cons.1 ha with h1 | h1
    · rcases List.mem_cons.1 hb with h2 | h2
      · rw [h1, h2]
      · have := h.1 b h2
        rw [← h1] at this
        exact absurd e (lt_ne this)
    · rcases List.mem_cons.1 hb with h2 | h2
      · have := h.1 a h1
        rw [← h2] at this
        exact absurd e.symm (lt_ne this)
      · exact uniqE h.2 h1 h2 e
theorem inE_mem {k : Str} {es : List EntS} : inE k es = true ↔ ∃ e ∈ es, e.1 = k := by
  unfold inE
  simp only [List.any_eq_true, decide_eq_true_eq]
  exact ⟨fun ⟨e, h1, h2⟩ => ⟨e, h1, h2.symm⟩, fun ⟨e, h1, h2⟩ => ⟨e, h1, h2.symm⟩⟩
theorem inE_perm {k : Str} {a b : List EntS} (h : a.Perm b) : inE k a = inE k b := by
  rw [Bool.eq_iff_iff, inE_mem, inE_mem]
  exact ⟨fun ⟨e, h1, h2⟩ => ⟨e, h.mem_iff.1 h1, h2⟩, fun ⟨e, h1, h2⟩ => ⟨e, h.mem_iff.2 h1, h2⟩⟩
theorem place_in {k : Str} : ∀ {os : List EntS} (i : Nat), SortedE os → (placeL k os i).2 = inE k os
  | [], i, _ => rfl
  | e :: r, i, h => by
    rw [SortedE, List.pairwise_cons] at h
    simp only [placeL]
    by_cases h1 : e.1 = k
    · rw [if_pos h1]
      exact (inE_mem.2 ⟨e, by simp, h1⟩).symm
    · rw [if_neg h1]
      cases hb : Op.bytesLess e.1 k with
      | true =>
        rw [if_pos rfl, place_in (i + 1) h.2, Bool.eq_iff_iff, inE_mem, inE_mem]
        constructor
        · rintro ⟨x, h2, h3⟩; exact ⟨x, by simp [h2], h3⟩
        · rintro ⟨x, h2, h3⟩
          rcases List.mem_cons.1 h2 with rfl | h2
          · exact absurd h3 h1
          · exact ⟨x, h2, h3⟩
      | false =>
        rw [if_neg (by simp)]
        have hn : ¬ e.1 < k := fun hl => by rw [less_iff.2 hl] at hb; cases hb
        symm
        rw [Bool.eq_false_iff]
        intro hin
        obtain ⟨x, h2, h3⟩ := inE_mem.1 hin
        rcases List.mem_cons.1 h2 with rfl | h2
        · exact h1 h3
        · have := h.1 x h2
          rw [h3] at this
          exact hn this
theorem place_split {k : Str} : ∀ {os : List EntS} (i : Nat), SortedE os → (placeL k os i).2 = false → (∀ e ∈ os.take ((placeL k os i).1 - i), e.1 < k) ∧ (∀ e ∈ os.drop ((placeL k os i).1 - i), k < e.1) ∧ i ≤ (placeL k os i).1
  | [], i, _, _ => by simp [placeL]
  | e :: r, i, h, hf => by
    have hs := h
    rw [SortedE, List.pairwise_cons] at h
    simp only [placeL] at hf ⊢
    by_cases h1 : e.1 = k
    · rw [if_pos h1] at hf; cases hf
    · rw [if_neg h1] at hf ⊢
      cases hb : Op.bytesLess e.1 k with
      | true =>
        rw [hb, if_pos rfl] at hf
        rw [if_pos rfl]
        obtain ⟨g1, g2, g3⟩ := place_split (i + 1) h.2 hf
        have e1 : (placeL k r (i + 1)).1 - i = ((placeL k r (i + 1)).1 - (i + 1)) + 1 := by omega
        rw [e1, List.take_succ_cons, List.drop_succ_cons]
        refine ⟨fun x hx => ?_, g2, by omega⟩
        rcases List.mem_cons.1 hx with rfl | hx
        · exact less_iff.1 hb
        · exact g1 x hx
      | false =>
        rw [if_neg (by simp)]
        simp only [Nat.sub_self, List.take_zero, List.drop_zero]
        have hn : ¬ e.1 < k := fun hl => by rw [less_iff.2 hl] at hb; cases hb
        have hke : k < e.1 := by
          rcases Decidable.em (k < e.1) with hl | hl
          · exact hl
          · exact absurd (List.le_antisymm (List.not_lt.1 hl) (List.not_lt.1 hn)) h1
        refine ⟨fun x hx => by simp at hx, fun x hx => ?_, Nat.le_refl _⟩
        rcases List.mem_cons.1 hx with rfl | hx
        · exact hke
        · exact List.lt_trans hke (h.1 x hx)
theorem ins_sorted {os : List EntS} {i : Nat} {e : EntS} (h : SortedE os) (h1 : ∀ x ∈ os.take i, x.1 < e.1) (h2 : ∀ x ∈ os.drop i, e.1 < x.1) : SortedE (insL os i e) := by
  have hh : SortedE (os.take i ++ os.drop i) := by rw [List.take_append_drop]; exact h
  rw [SortedE, List.pairwise_append] at hh
  unfold insL
  rw [SortedE, List.pairwise_append, List.pairwise_cons]
  refine ⟨hh.1, ⟨h2, hh.2.1⟩, fun a ha b hb => ?_⟩
  rcases List.mem_cons.1 hb with rfl | hb
  · exact h1 a ha
  · exact hh.2.2 a ha b hb
theorem ins_perm (os : List EntS) (i : Nat) (e : EntS) : (insL os i e).Perm (e :: os) := by
  unfold insL
  refine List.perm_middle.trans ?_
  rw [List.take_append_drop]
theorem look_at {k : Str} : ∀ {es : List EntS} {i : Nat} {x : Nat × Str × Int}, lookE k es i = some x → ∃ e, es[x.1 - i]? = some e ∧ e.1 = k ∧ e.2 = x.2 ∧ i ≤ x.1
  | [], i, x, h => by simp [lookE] at h
  | e :: r, i, x, h => by
    simp only [lookE] at h
    split at h
    · rename_i hk
      simp only [Option.some.injEq] at h; subst h
      exact ⟨e, by simp, hk.symm, rfl, Nat.le_refl _⟩
    · obtain ⟨y, h1, h2, h3, h4⟩ := look_at h
      refine ⟨y, ?_, h2, h3, by omega⟩
      rw [show x.1 - i = (x.1 - (i + 1)) + 1 by omega]
      simpa using h1
theorem del_perm {os es : List EntS} {i j : Nat} {e : EntS} (hp : os.Perm es) (hi : os[i]? = some e) (hj : es[j]? = some e) : (delL os i).Perm (es.eraseIdx j) := by
  have h1 : os = os.take i ++ e :: os.drop (i + 1) := by
    have hl := (List.getElem?_eq_some_iff.1 hi).1
    rw [← (List.getElem?_eq_some_iff.1 hi).2, ← List.drop_eq_getElem_cons hl, List.take_append_drop]
  have h2 : es = es.take j ++ e :: es.drop (j + 1) := by
    have hl := (List.getElem?_eq_some_iff.1 hj).1
    rw [← (List.getElem?_eq_some_iff.1 hj).2, ← List.drop_eq_getElem_cons hl, List.take_append_drop]
  rw [List.eraseIdx_eq_take_drop_succ]
  unfold delL
  have h3 : (e :: (os.take i ++ os.drop (i + 1))).Perm (e :: (es.take j ++ es.drop (j + 1))) := by
    refine List.perm_middle.symm.trans ?_
    refine List.Perm.trans ?_ List.perm_middle
    rw [← h1, ← h2]
    exact hp
  exact h3.cons_inv
theorem del_sorted {os : List EntS} (h : SortedE os) (i : Nat) : SortedE (delL os i) := by
  unfold delL
  rw [← List.eraseIdx_eq_take_drop_succ]
  exact h.sublist (List.eraseIdx_sublist _ _)
theorem osL_shO (l : List EntS) : osL (shO l) = l := by
  unfold shO
  split
  · rename_i h; rw [h]; rfl
  · rfl

/-! ### Act by act -/
theorem rel_put {s : StD} {r : RfD} (h : Rel s r) (k d : Str) (t : Int) : (put s k d t).1 = (putR r k d t).1 ∧ Rel (put s k d t).2 (putR r k d t).2.1 := by
  obtain ⟨hb, hR⟩ := rel_called h
  by_cases ho : r.owed > 0
  · have e1 : BoatV.put s k d t = (104, (BoatV.called s).2) := by
      have : (BoatV.called s).1 = true := by rw [hb]; simpa using ho
      simp only [BoatV.put, this, if_true]
    have e2 : putR r k d t = (104, calledR r, false) := by simp only [putR, calledR, if_pos ho]
    rw [e1, e2]
    exact ⟨rfl, hR⟩
  · have hcf : (BoatV.called s).1 = false := by rw [hb]; simpa using ho
    have hcr : calledR r = { r with calls := inc r.calls } := by simp only [calledR, if_neg ho]
    have hes := called_es s
    by_cases hform : keyOk k = false ∨ d.length > 65536 ∨ t < 0
    · have e1 : BoatV.put s k d t = (100, (BoatV.called s).2) := by simp only [BoatV.put, hcf, hform, if_true, Bool.false_eq_true, if_false]
      have e2 : putR r k d t = (100, calledR r, false) := by rw [hcr]; simp only [putR, if_neg ho, if_pos hform]
      rw [e1, e2]; exact ⟨rfl, hR⟩
    · have hin : (placeL k (osL r.sh) 0).2 = inE k s.es := by rw [place_in 0 h.sorted, inE_perm h.perm]
      by_cases hi : inE k s.es = true
      · have e1 : BoatV.put s k d t = (101, (BoatV.called s).2) := by simp only [BoatV.put, hcf, hform, hi, if_true, Bool.false_eq_true, if_false]
        have e2 : putR r k d t = (101, calledR r, false) := by rw [hcr]; simp only [putR, if_neg ho, if_neg hform, hin, hi, if_true]
        rw [e1, e2]; exact ⟨rfl, hR⟩
      · have hif : inE k s.es = false := by simpa using hi
        have hlen : (osL r.sh).length = s.es.length := h.perm.length_eq
        by_cases hm : (s.es.length : Int) ≥ s.most
        · have e1 : BoatV.put s k d t = (103, (BoatV.called s).2) := by simp only [BoatV.put, hcf, hform, hif, hm, if_true, Bool.false_eq_true, if_false]
          have e2 : putR r k d t = (103, calledR r, false) := by
            rw [hcr]; simp only [putR, if_neg ho, if_neg hform, hin, hif, Bool.false_eq_true, if_false]
            rw [if_pos (by rw [hlen, h.most]; exact hm)]
          rw [e1, e2]; exact ⟨rfl, hR⟩
        · have e1 : BoatV.put s k d t = (0, { (BoatV.called s).2 with es := s.es ++ [(k, d, t)] }) := by simp only [BoatV.put, hcf, hform, hif, hm, Bool.false_eq_true, if_false]
          have e2 : putR r k d t = (0, { calledR r with sh := some (insL (osL r.sh) (placeL k (osL r.sh) 0).1 (k, d, t), none) }, true) := by
            rw [hcr]; simp only [putR, if_neg ho, if_neg hform, hin, hif, Bool.false_eq_true, if_false]
            rw [if_neg (by rw [hlen, h.most]; exact hm)]
          rw [e1, e2]
          refine ⟨rfl, ?_⟩
          obtain ⟨g1, g2, g3⟩ := place_split 0 h.sorted (by rw [hin]; exact hif)
          rw [Nat.sub_zero] at g1 g2
          have htop := h.top
          have hlt : s.es.length + 1 ≤ 4096 := by omega
          refine ⟨hR.most, hR.calls, hR.owed, ?_, ?_, ?_, ?_, ?_⟩
          · show (insL (osL r.sh) (placeL k (osL r.sh) 0).1 (k, d, t)).Perm (s.es ++ [(k, d, t)])
            refine (ins_perm _ _ _).trans ?_
            refine (h.perm.cons _).trans ?_
            exact List.perm_append_comm (l₁ := [(k, d, t)])
          · exact ins_sorted h.sorted g1 g2
          · intro e he
            rcases List.mem_append.1 he with he | he
            · exact h.key e he
            · rw [List.mem_singleton.1 he]
              have hk : keyOk k = true := by
                cases hk : keyOk k with
                | true => rfl
                | false => exact absurd (.inl hk) hform
              unfold keyOk at hk
              simp only [Bool.and_eq_true, decide_eq_true_eq] at hk
              exact hk.1.2
          · simpa using hlt
          · rw [(called_keep s).1]; exact h.top
theorem rel_get {s : StD} {r : RfD} (h : Rel s r) (k : Str) : get s k = (getR r k).1 ∧ Rel (called s).2 (getR r k).2 := by
  obtain ⟨hb, hR⟩ := rel_called h
  by_cases ho : r.owed > 0
  · have e1 : BoatV.get s k = ([], 104) := by
      have : (BoatV.called s).1 = true := by rw [hb]; simpa using ho
      simp only [BoatV.get, this, if_true]
    have e2 : getR r k = (([], 104), calledR r) := by simp only [getR, calledR, if_pos ho]
    rw [e1, e2]
    exact ⟨rfl, hR⟩
  · have hcf : (BoatV.called s).1 = false := by rw [hb]; simpa using ho
    have hcr : calledR r = { r with calls := inc r.calls } := by simp only [calledR, if_neg ho]
    have hin : (placeL k (osL r.sh) 0).2 = inE k s.es := by rw [place_in 0 h.sorted, inE_perm h.perm]
    have hl := lookE_in k s.es 0
    cases hx : lookE k s.es 0 with
    | none =>
      rw [hx] at hl
      have hif : inE k s.es = false := hl.symm
      have e1 : BoatV.get s k = ([], 102) := by simp only [BoatV.get, hcf, hx, Bool.false_eq_true, if_false]
      have e2 : getR r k = (([], 102), calledR r) := by rw [hcr]; simp only [getR, if_neg ho, hin, hif, Bool.false_eq_true, if_false]
      rw [e1, e2]; exact ⟨rfl, hR⟩
    | some x =>
      rw [hx] at hl
      have hit : inE k s.es = true := hl.symm
      obtain ⟨e, g1, g2, g3, g4⟩ := look_at hx
      have hp : placeL k (osL r.sh) 0 = ((placeL k (osL r.sh) 0).1, true) := Prod.ext rfl (by rw [hin, hit])
      obtain ⟨f, f1, f2, f3⟩ := placeL_true hp
      rw [Nat.sub_zero] at f1
      have hef : f = e := uniqE h.sorted (List.mem_of_getElem? f1) (h.perm.mem_iff.2 (List.mem_of_getElem? g1)) (by rw [f2, g2])
      have e1 : BoatV.get s k = (x.2.1, 0) := by simp only [BoatV.get, hcf, hx, Bool.false_eq_true, if_false]
      have e2 : getR r k = ((x.2.1, 0), calledR r) := by
        rw [hcr]; simp only [getR, if_neg ho, hin, hit, if_true, f1, Option.map_some, Option.getD_some, hef, g3]
      rw [e1, e2]; exact ⟨rfl, hR⟩
theorem rel_del {s : StD} {r : RfD} (h : Rel s r) (k : Str) : (del s k).1 = (delR r k).1 ∧ Rel (del s k).2 (delR r k).2.1 := by
  obtain ⟨hb, hR⟩ := rel_called h
  by_cases ho : r.owed > 0
  · have e1 : BoatV.del s k = (104, (BoatV.called s).2) := by
      have : (BoatV.called s).1 = true := by rw [hb]; simpa using ho
      simp only [BoatV.del, this, if_true]
    have e2 : delR r k = (104, calledR r, false) := by simp only [delR, calledR, if_pos ho]
    rw [e1, e2]
    exact ⟨rfl, hR⟩
  · have hcf : (BoatV.called s).1 = false := by rw [hb]; simpa using ho
    have hcr : calledR r = { r with calls := inc r.calls } := by simp only [calledR, if_neg ho]
    have hin : (placeL k (osL r.sh) 0).2 = inE k s.es := by rw [place_in 0 h.sorted, inE_perm h.perm]
    have hl := lookE_in k s.es 0
    cases hx : lookE k s.es 0 with
    | none =>
      rw [hx] at hl
      have hif : inE k s.es = false := hl.symm
      have e1 : BoatV.del s k = (102, (BoatV.called s).2) := by simp only [BoatV.del, hcf, hx, Bool.false_eq_true, if_false]
      have e2 : delR r k = (102, calledR r, false) := by rw [hcr]; simp only [delR, if_neg ho, hin, hif, Bool.false_eq_true, if_false]
      rw [e1, e2]; exact ⟨rfl, hR⟩
    | some x =>
      rw [hx] at hl
      have hit : inE k s.es = true := hl.symm
      obtain ⟨e, g1, g2, g3, g4⟩ := look_at hx
      rw [Nat.sub_zero] at g1
      have hp : placeL k (osL r.sh) 0 = ((placeL k (osL r.sh) 0).1, true) := Prod.ext rfl (by rw [hin, hit])
      obtain ⟨f, f1, f2, f3⟩ := placeL_true hp
      rw [Nat.sub_zero] at f1
      have hef : f = e := uniqE h.sorted (List.mem_of_getElem? f1) (h.perm.mem_iff.2 (List.mem_of_getElem? g1)) (by rw [f2, g2])
      rw [hef] at f1
      have e1 : BoatV.del s k = (0, { (BoatV.called s).2 with es := s.es.eraseIdx x.1 }) := by simp only [BoatV.del, hcf, hx, Bool.false_eq_true, if_false]
      have e2 : delR r k = (0, { calledR r with sh := shO (delL (osL r.sh) (placeL k (osL r.sh) 0).1) }, true) := by
        rw [hcr]; simp only [delR, if_neg ho, hin, hit, if_true]
      rw [e1, e2]
      refine ⟨rfl, hR.most, hR.calls, hR.owed, ?_, ?_, ?_, ?_, ?_⟩
      · show (osL (shO (delL (osL r.sh) (placeL k (osL r.sh) 0).1))).Perm (s.es.eraseIdx x.1)
        rw [osL_shO]
        exact del_perm h.perm f1 g1
      · show SortedE (osL (shO (delL (osL r.sh) (placeL k (osL r.sh) 0).1)))
        rw [osL_shO]
        exact del_sorted h.sorted _
      · exact fun e he => h.key e (mem_erase he)
      · show (s.es.eraseIdx x.1).length ≤ 4096
        have := List.length_eraseIdx_le s.es x.1
        have := h.len
        omega
      · rw [(called_keep s).1]; exact h.top
theorem rel_fail {s : StD} {r : RfD} (h : Rel s r) (n : Int) (hn : n ≤ 9223372036854775807) : (fail s n).1 = (failR r n).1 ∧ Rel (fail s n).2 (failR r n).2 := by
  by_cases h0 : n < 0
  · have e1 : fail s n = (100, s) := by simp only [fail, if_pos h0]
    have e2 : failR r n = (100, r) := by simp only [failR, if_pos h0]
    rw [e1, e2]
    exact ⟨rfl, h⟩
  · have e1 : fail s n = (0, { s with owed := if n > 0 then [n] else [] }) := by simp only [fail, if_neg h0]
    have e2 : failR r n = (0, { r with owed := n }) := by simp only [failR, if_neg h0]
    rw [e1, e2]
    refine ⟨rfl, h.most, h.calls, ?_, h.perm, h.sorted, h.key, h.len, h.top⟩
    by_cases h1 : n > 0
    · exact .inr ⟨n, h1, hn, if_pos h1, rfl⟩
    · exact .inl ⟨if_neg h1, by simp only; omega⟩
theorem rel_objs {s : StD} {r : RfD} (h : Rel s r) (p : Str) : objs s.es p = (osL r.sh).filter fun e => pre p e.1 := by
  have hk : isort (keysE s.es) = (osL r.sh).map (·.1) := by
    refine sorted_unique ((isort_perm _).trans ?_) (isort_sorted _) ?_
    · exact (h.perm.map (·.1)).symm
    · rw [List.pairwise_map]
      exact h.sorted.imp fun {a b} hab => List.le_of_lt hab
  simp only [BoatV.objs, hk, List.filter_map, List.map_map]
  have : ∀ l : List EntS, (∀ e ∈ l, e ∈ osL r.sh) → l.map (objE s.es ∘ fun e => e.1) = l := by
    intro l hl
    induction l with
    | nil => rfl
    | cons e l ih =>
      rw [List.map_cons, ih fun x hx => hl x (by simp [hx])]
      congr 1
      have hmem : e ∈ s.es := h.perm.mem_iff.1 (hl e (by simp))
      obtain ⟨x, hx⟩ := lookE_mem e.1 s.es 0 (List.mem_map_of_mem hmem)
      obtain ⟨f, g1, g2, g3, g4⟩ := look_at hx
      have hef : f = e := uniqE h.sorted (h.perm.mem_iff.2 (List.mem_of_getElem? g1)) (hl e (by simp)) g2
      simp only [Function.comp, objE, hx, Option.map_some, Option.getD_some]
      rw [← g3, hef]
  exact this _ fun e he => (List.mem_filter.1 he).1
theorem rel_all {s : StD} {r : RfD} (h : Rel s r) : BoatV.objs s.es [] = osL r.sh := by
  rw [rel_objs h]
  exact List.filter_eq_self.2 fun e _ => pre_nil e.1
theorem rel_fits {s : StD} {r : RfD} (h : Rel s r) : fit1 s ∧ (∀ p, fitAll (s, p)) ∧ fitR r := by
  refine ⟨?_, fun p => ?_, ?_, ?_⟩
  · rcases h.owed with ⟨h1, _⟩ | ⟨n, _, _, h1, _⟩ <;> simp [fit1, h1]
  · have hl := h.len
    refine ⟨shortK_all fun k hk => ?_, by simp only; omega⟩
    simp only [keysE, List.mem_map] at hk
    obtain ⟨e, he, rfl⟩ := hk
    have := h.key e he; omega
  · intro e he
    have := h.key e (h.perm.mem_iff.1 he)
    simp only [maxLen]; omega
  · have := h.perm.length_eq
    have := h.len
    omega
end Go.Proofs.BoatV

/- Functions as trees (printed by Drv2.lean through mks.py); that the trees tell what they do. -/
namespace Go.Proofs.BoatV
open Go Go.Proofs
set_option maxRecDepth 100000
/-! boathouse/boathouselaw1.act -/
def F24nt : Tr :=
  (.ite (.bin .lss) [(.hid 0 true []), (.int .i64 4)]
    (.call 13 [(.ptr 0 0), (.hid 1 true []), (.hid 2 true []), (.hid 3 true [])] [(.row [(.hid 4 true []), (.mapv 1), (.chv 2), (.hid 5 true [])]), (.hid 0 []), (.hid 1 [])] (.hid 9 true []) [(.row [(.hid 10 true []), (.mapv 1), (.chv 2), (.hid 11 true [])]), (.hid 2 []), (.hid 3 [])]
      (.call 32 [(.ptr 0 0), (.hid 1 true []), (.hid 2 true []), (.hid 3 true [])] [(.row [(.hid 6 true []), .snil, (.hid 7 true []), (.hid 8 true [])])] (.hid 12 true []) [(.row [(.hid 13 true []), (.hid 14 false [1]), (.hid 15 true []), (.hid 16 true [])]), (.hid 4 [])]
        (.ite (.bin .eql) [(.hid 9 true []), (.hid 12 true [])]
          (.ret (.bool true) [(.row [(.hid 10 true []), (.mapv 2), (.chv 3), (.hid 11 true [])]), (.row [(.hid 13 true []), (.hid 14 false [4]), (.hid 15 true []), (.hid 16 true [])]), (.hid 2 []), (.hid 3 []), (.hid 4 [])])
          (.ret (.bool false) [(.row [(.hid 10 true []), (.mapv 2), (.chv 3), (.hid 11 true [])]), (.row [(.hid 13 true []), (.hid 14 false [4]), (.hid 15 true []), (.hid 16 true [])]), (.hid 2 []), (.hid 3 []), (.hid 4 [])]))
        (.call 32 [(.ptr 0 0), (.hid 1 true []), (.hid 2 true []), (.hid 3 true [])] [(.row [(.hid 6 true []), .snil, (.hid 7 true []), (.hid 8 true [])])] (.hid 12 true []) [(.row [(.hid 13 true []), .snil, (.hid 14 true []), (.hid 15 true [])])]
          (.ite (.bin .eql) [(.hid 9 true []), (.hid 12 true [])]
            (.ret (.bool true) [(.row [(.hid 10 true []), (.mapv 2), (.chv 3), (.hid 11 true [])]), (.row [(.hid 13 true []), .snil, (.hid 14 true []), (.hid 15 true [])]), (.hid 2 []), (.hid 3 [])])
            (.ret (.bool false) [(.row [(.hid 10 true []), (.mapv 2), (.chv 3), (.hid 11 true [])]), (.row [(.hid 13 true []), .snil, (.hid 14 true []), (.hid 15 true [])]), (.hid 2 []), (.hid 3 [])]))
          .fail))
      .fail)
    (.ite (.bin .lss) [(.hid 0 true []), (.int .i64 6)]
      (.call 14 [(.ptr 0 0), (.hid 1 true [])] [(.row [(.hid 4 true []), (.mapv 1), (.chv 2), (.hid 5 true [])]), (.hid 0 []), (.hid 1 [])] (.tup [(.hid 9 true []), (.hid 10 true [])]) [(.row [(.hid 11 true []), (.mapv 1), (.chv 2), (.hid 12 true [])]), (.hid 2 []), (.hid 3 [])]
        (.call 33 [(.ptr 0 0), (.hid 1 true [])] [(.row [(.hid 6 true []), .snil, (.hid 7 true []), (.hid 8 true [])])] (.tup [(.hid 13 true []), (.hid 14 true [])]) [(.row [(.hid 15 true []), .snil, (.hid 16 true []), (.hid 17 true [])])]
          (.ite (.bin .eql) [(.hid 9 true []), (.hid 13 true [])]
            (.ite (.bin .eql) [(.hid 10 true []), (.hid 14 true [])]
              (.ret (.bool true) [(.row [(.hid 11 true []), (.mapv 2), (.chv 3), (.hid 12 true [])]), (.row [(.hid 15 true []), .snil, (.hid 16 true []), (.hid 17 true [])]), (.hid 2 []), (.hid 3 [])])
              (.ret (.bool false) [(.row [(.hid 11 true []), (.mapv 2), (.chv 3), (.hid 12 true [])]), (.row [(.hid 15 true []), .snil, (.hid 16 true []), (.hid 17 true [])]), (.hid 2 []), (.hid 3 [])]))
            (.ret (.bool false) [(.row [(.hid 11 true []), (.mapv 2), (.chv 3), (.hid 12 true [])]), (.row [(.hid 15 true []), .snil, (.hid 16 true []), (.hid 17 true [])]), (.hid 2 []), (.hid 3 [])]))
          .fail)
        .fail)
      (.ite (.bin .eql) [(.hid 0 true []), (.int .i64 6)]
        (.call 16 [(.ptr 0 0), (.hid 1 true [])] [(.row [(.hid 4 true []), (.mapv 1), (.chv 2), (.hid 5 true [])]), (.hid 0 []), (.hid 1 [])] (.tup [(.hid 9 false [3]), (.hid 10 true [])]) [(.row [(.hid 11 true []), (.mapv 1), (.chv 2), (.hid 12 true [])]), (.hid 2 []), (.hid 3 []), (.hid 4 [])]
          (.call 34 [(.ptr 0 0), (.hid 1 true [])] [(.row [(.hid 6 true []), .snil, (.hid 7 true []), (.hid 8 true [])])] (.tup [.snil, (.hid 13 true [])]) [(.row [(.hid 14 true []), .snil, (.hid 15 true []), (.hid 16 true [])])]
            (.pite 25 [(.hid 9 false [0]), .snil] [(.hid 4 [])]
              (.ite (.bin .eql) [(.hid 10 true []), (.hid 13 true [])]
                (.call 26 [(.hid 9 false [0])] [(.hid 4 [])] (.tup []) [(.hid 5 [])]
                  (.ret (.bool true) [(.row [(.hid 11 true []), (.mapv 2), (.chv 3), (.hid 12 true [])]), (.row [(.hid 14 true []), .snil, (.hid 15 true []), (.hid 16 true [])]), (.hid 2 []), (.hid 3 [])])
                  .fail)
                (.call 26 [(.hid 9 false [0])] [(.hid 4 [])] (.tup []) [(.hid 5 [])]
                  (.ret (.bool false) [(.row [(.hid 11 true []), (.mapv 2), (.chv 3), (.hid 12 true [])]), (.row [(.hid 14 true []), .snil, (.hid 15 true []), (.hid 16 true [])]), (.hid 2 []), (.hid 3 [])])
                  .fail))
              (.call 26 [(.hid 9 false [0])] [(.hid 4 [])] (.tup []) [(.hid 5 [])]
                (.ret (.bool false) [(.row [(.hid 11 true []), (.mapv 2), (.chv 3), (.hid 12 true [])]), (.row [(.hid 14 true []), .snil, (.hid 15 true []), (.hid 16 true [])]), (.hid 2 []), (.hid 3 [])])
                .fail))
            .fail)
          (.call 16 [(.ptr 0 0), (.hid 1 true [])] [(.row [(.hid 4 true []), (.mapv 1), (.chv 2), (.hid 5 true [])]), (.hid 0 []), (.hid 1 [])] (.tup [.snil, (.hid 9 true [])]) [(.row [(.hid 10 true []), (.mapv 1), (.chv 2), (.hid 11 true [])]), (.hid 2 []), (.hid 3 [])]
            (.call 34 [(.ptr 0 0), (.hid 1 true [])] [(.row [(.hid 6 true []), .snil, (.hid 7 true []), (.hid 8 true [])])] (.tup [.snil, (.hid 12 true [])]) [(.row [(.hid 13 true []), .snil, (.hid 14 true []), (.hid 15 true [])])]
              (.pite 25 [.snil, .snil] []
                (.ite (.bin .eql) [(.hid 9 true []), (.hid 12 true [])]
                  (.call 26 [.snil] [] (.tup []) []
                    (.ret (.bool true) [(.row [(.hid 10 true []), (.mapv 2), (.chv 3), (.hid 11 true [])]), (.row [(.hid 13 true []), .snil, (.hid 14 true []), (.hid 15 true [])]), (.hid 2 []), (.hid 3 [])])
                    .fail)
                  (.call 26 [.snil] [] (.tup []) []
                    (.ret (.bool false) [(.row [(.hid 10 true []), (.mapv 2), (.chv 3), (.hid 11 true [])]), (.row [(.hid 13 true []), .snil, (.hid 14 true []), (.hid 15 true [])]), (.hid 2 []), (.hid 3 [])])
                    .fail))
                (.call 26 [.snil] [] (.tup []) []
                  (.ret (.bool false) [(.row [(.hid 10 true []), (.mapv 2), (.chv 3), (.hid 11 true [])]), (.row [(.hid 13 true []), .snil, (.hid 14 true []), (.hid 15 true [])]), (.hid 2 []), (.hid 3 [])])
                  .fail))
              .fail)
            .fail))
        (.ite (.bin .lss) [(.hid 0 true []), (.int .i64 9)]
          (.call 20 [(.ptr 0 0), (.hid 1 true [])] [(.row [(.hid 4 true []), (.mapv 1), (.chv 2), (.hid 5 true [])]), (.hid 0 []), (.hid 1 [])] (.hid 9 true []) [(.row [(.hid 10 true []), (.mapv 1), (.chv 2), (.hid 11 true [])]), (.hid 2 []), (.hid 3 [])]
            (.call 35 [(.ptr 0 0), (.hid 1 true [])] [(.row [(.hid 6 true []), .snil, (.hid 7 true []), (.hid 8 true [])])] (.hid 12 true []) [(.row [(.hid 13 true []), (.hid 14 false [1]), (.hid 15 true []), (.hid 16 true [])]), (.hid 4 [])]
              (.ite (.bin .eql) [(.hid 9 true []), (.hid 12 true [])]
                (.ret (.bool true) [(.row [(.hid 10 true []), (.mapv 2), (.chv 3), (.hid 11 true [])]), (.row [(.hid 13 true []), (.hid 14 false [4]), (.hid 15 true []), (.hid 16 true [])]), (.hid 2 []), (.hid 3 []), (.hid 4 [])])
                (.ret (.bool false) [(.row [(.hid 10 true []), (.mapv 2), (.chv 3), (.hid 11 true [])]), (.row [(.hid 13 true []), (.hid 14 false [4]), (.hid 15 true []), (.hid 16 true [])]), (.hid 2 []), (.hid 3 []), (.hid 4 [])]))
              (.call 35 [(.ptr 0 0), (.hid 1 true [])] [(.row [(.hid 6 true []), .snil, (.hid 7 true []), (.hid 8 true [])])] (.hid 12 true []) [(.row [(.hid 13 true []), .snil, (.hid 14 true []), (.hid 15 true [])])]
                (.ite (.bin .eql) [(.hid 9 true []), (.hid 12 true [])]
                  (.ret (.bool true) [(.row [(.hid 10 true []), (.mapv 2), (.chv 3), (.hid 11 true [])]), (.row [(.hid 13 true []), .snil, (.hid 14 true []), (.hid 15 true [])]), (.hid 2 []), (.hid 3 [])])
                  (.ret (.bool false) [(.row [(.hid 10 true []), (.mapv 2), (.chv 3), (.hid 11 true [])]), (.row [(.hid 13 true []), .snil, (.hid 14 true []), (.hid 15 true [])]), (.hid 2 []), (.hid 3 [])]))
                .fail))
            .fail)
          (.call 17 [(.ptr 0 0), (.hid 3 true [])] [(.row [(.hid 4 true []), (.mapv 1), (.chv 2), (.hid 5 true [])]), (.hid 0 []), (.hid 1 [])] (.hid 9 true []) [(.row [(.hid 10 true []), (.mapv 1), (.chv 2), (.hid 11 true [])]), (.hid 2 []), (.hid 3 [])]
            (.call 36 [(.ptr 0 0), (.hid 3 true [])] [(.row [(.hid 6 true []), .snil, (.hid 7 true []), (.hid 8 true [])])] (.hid 12 true []) [(.row [(.hid 13 true []), .snil, (.hid 14 true []), (.hid 15 true [])])]
              (.ite (.bin .eql) [(.hid 9 true []), (.hid 12 true [])]
                (.ret (.bool true) [(.row [(.hid 10 true []), (.mapv 2), (.chv 3), (.hid 11 true [])]), (.row [(.hid 13 true []), .snil, (.hid 14 true []), (.hid 15 true [])]), (.hid 2 []), (.hid 3 [])])
                (.ret (.bool false) [(.row [(.hid 10 true []), (.mapv 2), (.chv 3), (.hid 11 true [])]), (.row [(.hid 13 true []), .snil, (.hid 14 true []), (.hid 15 true [])]), (.hid 2 []), (.hid 3 [])]))
              .fail)
            .fail)))))
def F24n : Flow := ⟨24, [(.ptr 0 0), (.ptr 1 0), (.agg [(.hid 0 true []), (.hid 1 true []), (.hid 2 true []), (.hid 3 true [])])], [(.row [(.hid 4 true []), (.mapv 2), (.chv 3), (.hid 5 true [])]), (.row [(.hid 6 true []), .snil, (.hid 7 true []), (.hid 8 true [])]), (.hid 0 []), (.hid 1 [])], F24nt, []⟩
theorem F24n_ok : F24n.check Tryd.prog okS ext2 40 = true := by kernel_rfl
theorem F24n_spec {sp : Sps} (hsp : sp.ok Tryd.prog) (n : Nat) : SpecB Tryd.prog 24 (F24n.spec sp n) := flow_ok mixedS ext2_ok okS_enters hsp F24n_ok rfl n
/-! boathouse/boathouselaw1.act -/
def F24ot : Tr :=
  (.ite (.bin .lss) [(.hid 0 true []), (.int .i64 4)]
    (.call 13 [(.ptr 0 0), (.hid 1 true []), (.hid 2 true []), (.hid 3 true [])] [(.row [(.hid 4 true []), (.mapv 1), (.chv 2), (.hid 5 true [])]), (.hid 0 []), (.hid 1 [])] (.hid 10 true []) [(.row [(.hid 11 true []), (.mapv 1), (.chv 2), (.hid 12 true [])]), (.hid 3 []), (.hid 4 [])]
      (.call 32 [(.ptr 0 0), (.hid 1 true []), (.hid 2 true []), (.hid 3 true [])] [(.row [(.hid 6 true []), (.hid 7 false [1]), (.hid 8 true []), (.hid 9 true [])]), (.hid 2 [])] (.hid 13 true []) [(.row [(.hid 14 true []), (.hid 15 false [2]), (.hid 16 true []), (.hid 17 true [])]), (.hid 5 []), (.hid 6 [])]
        (.ite (.bin .eql) [(.hid 10 true []), (.hid 13 true [])]
          (.ret (.bool true) [(.row [(.hid 11 true []), (.mapv 2), (.chv 3), (.hid 12 true [])]), (.row [(.hid 14 true []), (.hid 15 false [5]), (.hid 16 true []), (.hid 17 true [])]), (.hid 3 []), (.hid 4 []), (.hid 5 []), (.hid 6 [])])
          (.ret (.bool false) [(.row [(.hid 11 true []), (.mapv 2), (.chv 3), (.hid 12 true [])]), (.row [(.hid 14 true []), (.hid 15 false [5]), (.hid 16 true []), (.hid 17 true [])]), (.hid 3 []), (.hid 4 []), (.hid 5 []), (.hid 6 [])]))
        (.call 32 [(.ptr 0 0), (.hid 1 true []), (.hid 2 true []), (.hid 3 true [])] [(.row [(.hid 6 true []), (.hid 7 false [1]), (.hid 8 true []), (.hid 9 true [])]), (.hid 2 [])] (.hid 13 true []) [(.row [(.hid 14 true []), (.hid 15 false [1]), (.hid 16 true []), (.hid 17 true [])]), (.hid 5 [])]
          (.ite (.bin .eql) [(.hid 10 true []), (.hid 13 true [])]
            (.ret (.bool true) [(.row [(.hid 11 true []), (.mapv 2), (.chv 3), (.hid 12 true [])]), (.row [(.hid 14 true []), (.hid 15 false [4]), (.hid 16 true []), (.hid 17 true [])]), (.hid 3 []), (.hid 4 []), (.hid 5 [])])
            (.ret (.bool false) [(.row [(.hid 11 true []), (.mapv 2), (.chv 3), (.hid 12 true [])]), (.row [(.hid 14 true []), (.hid 15 false [4]), (.hid 16 true []), (.hid 17 true [])]), (.hid 3 []), (.hid 4 []), (.hid 5 [])]))
          .fail))
      .fail)
    (.ite (.bin .lss) [(.hid 0 true []), (.int .i64 6)]
      (.call 14 [(.ptr 0 0), (.hid 1 true [])] [(.row [(.hid 4 true []), (.mapv 1), (.chv 2), (.hid 5 true [])]), (.hid 0 []), (.hid 1 [])] (.tup [(.hid 10 true []), (.hid 11 true [])]) [(.row [(.hid 12 true []), (.mapv 1), (.chv 2), (.hid 13 true [])]), (.hid 3 []), (.hid 4 [])]
        (.call 33 [(.ptr 0 0), (.hid 1 true [])] [(.row [(.hid 6 true []), (.hid 7 false [1]), (.hid 8 true []), (.hid 9 true [])]), (.hid 2 [])] (.tup [(.hid 14 true []), (.hid 15 true [])]) [(.row [(.hid 16 true []), (.hid 17 false [1]), (.hid 18 true []), (.hid 19 true [])]), (.hid 5 [])]
          (.ite (.bin .eql) [(.hid 10 true []), (.hid 14 true [])]
            (.ite (.bin .eql) [(.hid 11 true []), (.hid 15 true [])]
              (.ret (.bool true) [(.row [(.hid 12 true []), (.mapv 2), (.chv 3), (.hid 13 true [])]), (.row [(.hid 16 true []), (.hid 17 false [4]), (.hid 18 true []), (.hid 19 true [])]), (.hid 3 []), (.hid 4 []), (.hid 5 [])])
              (.ret (.bool false) [(.row [(.hid 12 true []), (.mapv 2), (.chv 3), (.hid 13 true [])]), (.row [(.hid 16 true []), (.hid 17 false [4]), (.hid 18 true []), (.hid 19 true [])]), (.hid 3 []), (.hid 4 []), (.hid 5 [])]))
            (.ret (.bool false) [(.row [(.hid 12 true []), (.mapv 2), (.chv 3), (.hid 13 true [])]), (.row [(.hid 16 true []), (.hid 17 false [4]), (.hid 18 true []), (.hid 19 true [])]), (.hid 3 []), (.hid 4 []), (.hid 5 [])]))
          .fail)
        .fail)
      (.ite (.bin .eql) [(.hid 0 true []), (.int .i64 6)]
        (.call 16 [(.ptr 0 0), (.hid 1 true [])] [(.row [(.hid 4 true []), (.mapv 1), (.chv 2), (.hid 5 true [])]), (.hid 0 []), (.hid 1 [])] (.tup [(.hid 10 false [3]), (.hid 11 true [])]) [(.row [(.hid 12 true []), (.mapv 1), (.chv 2), (.hid 13 true [])]), (.hid 3 []), (.hid 4 []), (.hid 5 [])]
          (.call 34 [(.ptr 0 0), (.hid 1 true [])] [(.row [(.hid 6 true []), (.hid 7 false [1]), (.hid 8 true []), (.hid 9 true [])]), (.hid 2 [])] (.tup [(.hid 14 false [2]), (.hid 15 true [])]) [(.row [(.hid 16 true []), (.hid 17 false [1]), (.hid 18 true []), (.hid 19 true [])]), (.hid 6 []), (.hid 7 [])]
            (.pite 25 [(.hid 10 false [0]), (.hid 14 false [1])] [(.hid 5 []), (.hid 7 [])]
              (.ite (.bin .eql) [(.hid 11 true []), (.hid 15 true [])]
                (.call 26 [(.hid 10 false [0])] [(.hid 5 [])] (.tup []) [(.hid 8 [])]
                  (.ret (.bool true) [(.row [(.hid 12 true []), (.mapv 2), (.chv 3), (.hid 13 true [])]), (.row [(.hid 16 true []), (.hid 17 false [4]), (.hid 18 true []), (.hid 19 true [])]), (.hid 3 []), (.hid 4 []), (.hid 6 [])])
                  .fail)
                (.call 26 [(.hid 10 false [0])] [(.hid 5 [])] (.tup []) [(.hid 8 [])]
                  (.ret (.bool false) [(.row [(.hid 12 true []), (.mapv 2), (.chv 3), (.hid 13 true [])]), (.row [(.hid 16 true []), (.hid 17 false [4]), (.hid 18 true []), (.hid 19 true [])]), (.hid 3 []), (.hid 4 []), (.hid 6 [])])
                  .fail))
              (.call 26 [(.hid 10 false [0])] [(.hid 5 [])] (.tup []) [(.hid 8 [])]
                (.ret (.bool false) [(.row [(.hid 12 true []), (.mapv 2), (.chv 3), (.hid 13 true [])]), (.row [(.hid 16 true []), (.hid 17 false [4]), (.hid 18 true []), (.hid 19 true [])]), (.hid 3 []), (.hid 4 []), (.hid 6 [])])
                .fail))
            (.call 34 [(.ptr 0 0), (.hid 1 true [])] [(.row [(.hid 6 true []), (.hid 7 false [1]), (.hid 8 true []), (.hid 9 true [])]), (.hid 2 [])] (.tup [.snil, (.hid 14 true [])]) [(.row [(.hid 15 true []), (.hid 16 false [1]), (.hid 17 true []), (.hid 18 true [])]), (.hid 6 [])]
              (.pite 25 [(.hid 10 false [0]), .snil] [(.hid 5 [])]
                (.ite (.bin .eql) [(.hid 11 true []), (.hid 14 true [])]
                  (.call 26 [(.hid 10 false [0])] [(.hid 5 [])] (.tup []) [(.hid 7 [])]
                    (.ret (.bool true) [(.row [(.hid 12 true []), (.mapv 2), (.chv 3), (.hid 13 true [])]), (.row [(.hid 15 true []), (.hid 16 false [4]), (.hid 17 true []), (.hid 18 true [])]), (.hid 3 []), (.hid 4 []), (.hid 6 [])])
                    .fail)
                  (.call 26 [(.hid 10 false [0])] [(.hid 5 [])] (.tup []) [(.hid 7 [])]
                    (.ret (.bool false) [(.row [(.hid 12 true []), (.mapv 2), (.chv 3), (.hid 13 true [])]), (.row [(.hid 15 true []), (.hid 16 false [4]), (.hid 17 true []), (.hid 18 true [])]), (.hid 3 []), (.hid 4 []), (.hid 6 [])])
                    .fail))
                (.call 26 [(.hid 10 false [0])] [(.hid 5 [])] (.tup []) [(.hid 7 [])]
                  (.ret (.bool false) [(.row [(.hid 12 true []), (.mapv 2), (.chv 3), (.hid 13 true [])]), (.row [(.hid 15 true []), (.hid 16 false [4]), (.hid 17 true []), (.hid 18 true [])]), (.hid 3 []), (.hid 4 []), (.hid 6 [])])
                  .fail))
              .fail))
          (.call 16 [(.ptr 0 0), (.hid 1 true [])] [(.row [(.hid 4 true []), (.mapv 1), (.chv 2), (.hid 5 true [])]), (.hid 0 []), (.hid 1 [])] (.tup [.snil, (.hid 10 true [])]) [(.row [(.hid 11 true []), (.mapv 1), (.chv 2), (.hid 12 true [])]), (.hid 3 []), (.hid 4 [])]
            (.call 34 [(.ptr 0 0), (.hid 1 true [])] [(.row [(.hid 6 true []), (.hid 7 false [1]), (.hid 8 true []), (.hid 9 true [])]), (.hid 2 [])] (.tup [(.hid 13 false [2]), (.hid 14 true [])]) [(.row [(.hid 15 true []), (.hid 16 false [1]), (.hid 17 true []), (.hid 18 true [])]), (.hid 5 []), (.hid 6 [])]
              (.pite 25 [.snil, (.hid 13 false [0])] [(.hid 6 [])]
                (.ite (.bin .eql) [(.hid 10 true []), (.hid 14 true [])]
                  (.call 26 [.snil] [] (.tup []) []
                    (.ret (.bool true) [(.row [(.hid 11 true []), (.mapv 2), (.chv 3), (.hid 12 true [])]), (.row [(.hid 15 true []), (.hid 16 false [4]), (.hid 17 true []), (.hid 18 true [])]), (.hid 3 []), (.hid 4 []), (.hid 5 [])])
                    .fail)
                  (.call 26 [.snil] [] (.tup []) []
                    (.ret (.bool false) [(.row [(.hid 11 true []), (.mapv 2), (.chv 3), (.hid 12 true [])]), (.row [(.hid 15 true []), (.hid 16 false [4]), (.hid 17 true []), (.hid 18 true [])]), (.hid 3 []), (.hid 4 []), (.hid 5 [])])
                    .fail))
                (.call 26 [.snil] [] (.tup []) []
                  (.ret (.bool false) [(.row [(.hid 11 true []), (.mapv 2), (.chv 3), (.hid 12 true [])]), (.row [(.hid 15 true []), (.hid 16 false [4]), (.hid 17 true []), (.hid 18 true [])]), (.hid 3 []), (.hid 4 []), (.hid 5 [])])
                  .fail))
              (.call 34 [(.ptr 0 0), (.hid 1 true [])] [(.row [(.hid 6 true []), (.hid 7 false [1]), (.hid 8 true []), (.hid 9 true [])]), (.hid 2 [])] (.tup [.snil, (.hid 13 true [])]) [(.row [(.hid 14 true []), (.hid 15 false [1]), (.hid 16 true []), (.hid 17 true [])]), (.hid 5 [])]
                (.pite 25 [.snil, .snil] []
                  (.ite (.bin .eql) [(.hid 10 true []), (.hid 13 true [])]
                    (.call 26 [.snil] [] (.tup []) []
                      (.ret (.bool true) [(.row [(.hid 11 true []), (.mapv 2), (.chv 3), (.hid 12 true [])]), (.row [(.hid 14 true []), (.hid 15 false [4]), (.hid 16 true []), (.hid 17 true [])]), (.hid 3 []), (.hid 4 []), (.hid 5 [])])
                      .fail)
                    (.call 26 [.snil] [] (.tup []) []
                      (.ret (.bool false) [(.row [(.hid 11 true []), (.mapv 2), (.chv 3), (.hid 12 true [])]), (.row [(.hid 14 true []), (.hid 15 false [4]), (.hid 16 true []), (.hid 17 true [])]), (.hid 3 []), (.hid 4 []), (.hid 5 [])])
                      .fail))
                  (.call 26 [.snil] [] (.tup []) []
                    (.ret (.bool false) [(.row [(.hid 11 true []), (.mapv 2), (.chv 3), (.hid 12 true [])]), (.row [(.hid 14 true []), (.hid 15 false [4]), (.hid 16 true []), (.hid 17 true [])]), (.hid 3 []), (.hid 4 []), (.hid 5 [])])
                    .fail))
                .fail))
            .fail))
        (.ite (.bin .lss) [(.hid 0 true []), (.int .i64 9)]
          (.call 20 [(.ptr 0 0), (.hid 1 true [])] [(.row [(.hid 4 true []), (.mapv 1), (.chv 2), (.hid 5 true [])]), (.hid 0 []), (.hid 1 [])] (.hid 10 true []) [(.row [(.hid 11 true []), (.mapv 1), (.chv 2), (.hid 12 true [])]), (.hid 3 []), (.hid 4 [])]
            (.call 35 [(.ptr 0 0), (.hid 1 true [])] [(.row [(.hid 6 true []), (.hid 7 false [1]), (.hid 8 true []), (.hid 9 true [])]), (.hid 2 [])] (.hid 13 true []) [(.row [(.hid 14 true []), (.hid 15 false [2]), (.hid 16 true []), (.hid 17 true [])]), (.hid 5 []), (.hid 6 [])]
              (.ite (.bin .eql) [(.hid 10 true []), (.hid 13 true [])]
                (.ret (.bool true) [(.row [(.hid 11 true []), (.mapv 2), (.chv 3), (.hid 12 true [])]), (.row [(.hid 14 true []), (.hid 15 false [5]), (.hid 16 true []), (.hid 17 true [])]), (.hid 3 []), (.hid 4 []), (.hid 5 []), (.hid 6 [])])
                (.ret (.bool false) [(.row [(.hid 11 true []), (.mapv 2), (.chv 3), (.hid 12 true [])]), (.row [(.hid 14 true []), (.hid 15 false [5]), (.hid 16 true []), (.hid 17 true [])]), (.hid 3 []), (.hid 4 []), (.hid 5 []), (.hid 6 [])]))
              (.call 35 [(.ptr 0 0), (.hid 1 true [])] [(.row [(.hid 6 true []), (.hid 7 false [1]), (.hid 8 true []), (.hid 9 true [])]), (.hid 2 [])] (.hid 13 true []) [(.row [(.hid 14 true []), .snil, (.hid 15 true []), (.hid 16 true [])]), (.hid 5 [])]
                (.ite (.bin .eql) [(.hid 10 true []), (.hid 13 true [])]
                  (.ret (.bool true) [(.row [(.hid 11 true []), (.mapv 2), (.chv 3), (.hid 12 true [])]), (.row [(.hid 14 true []), .snil, (.hid 15 true []), (.hid 16 true [])]), (.hid 3 []), (.hid 4 []), (.hid 5 [])])
                  (.ret (.bool false) [(.row [(.hid 11 true []), (.mapv 2), (.chv 3), (.hid 12 true [])]), (.row [(.hid 14 true []), .snil, (.hid 15 true []), (.hid 16 true [])]), (.hid 3 []), (.hid 4 []), (.hid 5 [])]))
                (.call 35 [(.ptr 0 0), (.hid 1 true [])] [(.row [(.hid 6 true []), (.hid 7 false [1]), (.hid 8 true []), (.hid 9 true [])]), (.hid 2 [])] (.hid 13 true []) [(.row [(.hid 14 true []), (.hid 15 false [1]), (.hid 16 true []), (.hid 17 true [])]), (.hid 5 [])]
                  (.ite (.bin .eql) [(.hid 10 true []), (.hid 13 true [])]
                    (.ret (.bool true) [(.row [(.hid 11 true []), (.mapv 2), (.chv 3), (.hid 12 true [])]), (.row [(.hid 14 true []), (.hid 15 false [4]), (.hid 16 true []), (.hid 17 true [])]), (.hid 3 []), (.hid 4 []), (.hid 5 [])])
                    (.ret (.bool false) [(.row [(.hid 11 true []), (.mapv 2), (.chv 3), (.hid 12 true [])]), (.row [(.hid 14 true []), (.hid 15 false [4]), (.hid 16 true []), (.hid 17 true [])]), (.hid 3 []), (.hid 4 []), (.hid 5 [])]))
                  .fail)))
            .fail)
          (.call 17 [(.ptr 0 0), (.hid 3 true [])] [(.row [(.hid 4 true []), (.mapv 1), (.chv 2), (.hid 5 true [])]), (.hid 0 []), (.hid 1 [])] (.hid 10 true []) [(.row [(.hid 11 true []), (.mapv 1), (.chv 2), (.hid 12 true [])]), (.hid 3 []), (.hid 4 [])]
            (.call 36 [(.ptr 0 0), (.hid 3 true [])] [(.row [(.hid 6 true []), (.hid 7 false [1]), (.hid 8 true []), (.hid 9 true [])]), (.hid 2 [])] (.hid 13 true []) [(.row [(.hid 14 true []), (.hid 15 false [1]), (.hid 16 true []), (.hid 17 true [])]), (.hid 5 [])]
              (.ite (.bin .eql) [(.hid 10 true []), (.hid 13 true [])]
                (.ret (.bool true) [(.row [(.hid 11 true []), (.mapv 2), (.chv 3), (.hid 12 true [])]), (.row [(.hid 14 true []), (.hid 15 false [4]), (.hid 16 true []), (.hid 17 true [])]), (.hid 3 []), (.hid 4 []), (.hid 5 [])])
                (.ret (.bool false) [(.row [(.hid 11 true []), (.mapv 2), (.chv 3), (.hid 12 true [])]), (.row [(.hid 14 true []), (.hid 15 false [4]), (.hid 16 true []), (.hid 17 true [])]), (.hid 3 []), (.hid 4 []), (.hid 5 [])]))
              .fail)
            .fail)))))
def F24o : Flow := ⟨24, [(.ptr 0 0), (.ptr 1 0), (.agg [(.hid 0 true []), (.hid 1 true []), (.hid 2 true []), (.hid 3 true [])])], [(.row [(.hid 4 true []), (.mapv 2), (.chv 3), (.hid 5 true [])]), (.row [(.hid 6 true []), (.hid 7 false [4]), (.hid 8 true []), (.hid 9 true [])]), (.hid 0 []), (.hid 1 []), (.hid 2 [])], F24ot, []⟩
theorem F24o_ok : F24o.check Tryd.prog okS ext2 40 = true := by kernel_rfl
theorem F24o_spec {sp : Sps} (hsp : sp.ok Tryd.prog) (n : Nat) : SpecB Tryd.prog 24 (F24o.spec sp n) := flow_ok mixedS ext2_ok okS_enters hsp F24o_ok rfl n
end Go.Proofs.BoatV

/- StoreActs: one act on both stores: its contract. Printed by gen_r8.py. -/
namespace Go.Proofs.BoatV
open Go
set_option linter.unusedVariables false
noncomputable def spf4 : FuncId → Spec
  | 23 => g23
  | 26 => g26
  | 32 => g32
  | 33 => g33
  | 34 => g34
  | 35 => g35
  | 36 => g36
  | f => spf3 f
theorem spf4_ok (f : FuncId) : SpecB Tryd.prog f (spf4 f) := by
  unfold spf4
  split
  · exact k23
  · exact k26
  · exact k32
  · exact k33
  · exact k34
  · exact k35
  · exact k36
  · exact spf3_ok _
noncomputable def pf5 : FuncId → List AV → Heap → Option AV
  | 25 => g25
  | f => pf4 f
theorem pf5_ok (f : FuncId) : SpecB Tryd.prog f (pure1 (pf5 f)) := by
  unfold pf5
  split
  · exact k25
  · exact pf4_ok _
noncomputable def spA2 : Sps := ⟨spf4, pf5⟩
theorem spA2_ok : spA2.ok Tryd.prog := ⟨spf4_ok, pf5_ok⟩
structure ActD where
  kind : Int
  key : Str
  data : Str
  n : Int
def actA (a : ActD) : AV := .agg [.int .i64 a.kind, .str a.key, .str a.data, .int .i64 a.n]
def stR2 (k : Nat) (m c : Int) : AO := .row [.int .i64 m, .mapv k, .chv (k + 1), .int .i64 c]
def pH (s : StD) (r : RfD) : Heap := stR2 2 s.most s.calls :: rfR 4 r.most r.sh r.owed r.calls :: mapO s.es :: chO s.owed :: rowsO r.sh
def pH2 (old : ShO) (s : StD) (r : RfD) : Bool → Heap
  | false => stR2 2 s.most s.calls :: rfR 4 r.most old r.owed r.calls :: mapO s.es :: chO s.owed :: rowsO old
  | true => stR2 2 s.most s.calls :: rfR (4 + (rowsO old).length) r.most r.sh r.owed r.calls :: mapO s.es :: chO s.owed :: (rowsO old ++ rowsO r.sh)
def actS (s : StD) (a : ActD) : StD :=
  if a.kind < 4 then (put s a.key a.data a.n).2 else if a.kind < 6 then (called s).2 else if a.kind = 6 then (called s).2 else if a.kind < 9 then (del s a.key).2 else (fail s a.n).2
def actR (r : RfD) (a : ActD) : RfD × Bool :=
  if a.kind < 4 then (putR r a.key a.data a.n).2 else if a.kind < 6 then ((getR r a.key).2, false) else if a.kind = 6 then ((listRR r a.key).2, false) else if a.kind < 9 then (delR r a.key).2 else ((failR r a.n).2, false)
abbrev PA := StD × RfD × ActD
def eAc (x : PA) : List AV := [.ptr 0 0, .ptr 1 0, actA x.2.2]
def hAc (x : PA) : Heap := pH x.1 x.2.1
theorem ac_inj (d e : PA) (h : eAc d = eAc e) (h2 : hAc d = hAc e) : d = e := by
  obtain ⟨s, r, a⟩ := d; obtain ⟨s', r', a'⟩ := e
  obtain ⟨m, c, es, ow⟩ := s; obtain ⟨m', c', es', ow'⟩ := s'
  obtain ⟨rm, sh, ro, rc⟩ := r; obtain ⟨rm', sh', ro', rc'⟩ := r'
  obtain ⟨a1, a2, a3, a4⟩ := a; obtain ⟨b1, b2, b3, b4⟩ := a'
  simp only [eAc, actA, List.cons.injEq, AV.agg.injEq, AV.int.injEq, AV.str.injEq, true_and, and_true] at h
  simp only [hAc, pH, stR2, rfR, List.cons.injEq, AO.row.injEq, AV.int.injEq, true_and, and_true] at h2
  obtain ⟨⟨h3, h4⟩, ⟨h5, h6, h7, h8⟩, h9, h10, h11⟩ := h2
  have hs : stH ⟨m, c, es, ow⟩ = stH ⟨m', c', es', ow'⟩ := by simp only [stH, stR, h3, h4, h9, h10]
  have hs' := stH_inj hs
  have hsh : osA 1 sh = osA 1 sh' := by
    match sh, sh', h6 with
    | none, none, _ => rfl
    | none, some x, h6 => simp [osA] at h6
    | some x, none, h6 => simp [osA] at h6
    | some x, some y, h6 => simp only [osA, AV.sl.injEq, true_and] at h6 ⊢; exact h6
  have hr : rfH ⟨rm, sh, ro, rc⟩ = rfH ⟨rm', sh', ro', rc'⟩ := by simp only [rfH, rfR, h5, h7, h8, hsh, h11]
  have hr' := rfH_inj hr
  rw [hs', hr', h.1, h.2.1, h.2.2.1, h.2.2.2]
structure FitA (s : StD) (r : RfD) (a : ActD) : Prop where
  rel : Rel s r
  key : a.key.length ≤ maxLen
  n : a.n ≤ 9223372036854775807
def resAc (x : PA) : AV × Heap := (.bool true, pH2 x.2.1.sh (actS x.1 x.2.2) (actR x.2.1 x.2.2).1 (actR x.2.1 x.2.2).2)
noncomputable def g24 : Spec := knownM (fun x : PA => FitA x.1 x.2.1 x.2.2) eAc hAc resAc
theorem at24 {s : StD} {r : RfD} {a : ActD} (h : FitA s r a) : g24 [.ptr 0 0, .ptr 1 0, actA a] (pH s r) = some (resAc (s, r, a)) := knownM_at (fit := fun x : PA => FitA x.1 x.2.1 x.2.2) ac_inj (d := (s, r, a)) h
theorem putR_sh (r : RfD) (k d : Str) (t : Int) : ((putR r k d t).2.2 = true ∧ ∃ l, (putR r k d t).2.1.sh = some (l, none)) ∨ ((putR r k d t).2.2 = false ∧ (putR r k d t).2.1.sh = r.sh) := by
  unfold putR
  split
  · exact .inr ⟨rfl, rfl⟩
  · split
    · exact .inr ⟨rfl, rfl⟩
    · split
      · exact .inr ⟨rfl, rfl⟩
      · split
        · exact .inr ⟨rfl, rfl⟩
        · exact .inl ⟨rfl, _, rfl⟩
theorem shO_cases (l : List EntS) : (l = [] ∧ shO l = none) ∨ (l ≠ [] ∧ shO l = some (l, none)) := by
  by_cases h : l = []
  · exact .inl ⟨h, by simp [shO, h]⟩
  · exact .inr ⟨h, by simp [shO, h]⟩
theorem delR_sh (r : RfD) (k : Str) : ((delR r k).2.2 = true ∧ osL r.sh ≠ [] ∧ ((∃ l, (delR r k).2.1.sh = some (l, none)) ∨ (delR r k).2.1.sh = none)) ∨ ((delR r k).2.2 = false ∧ (delR r k).2.1.sh = r.sh) := by
  unfold delR
  split
  · exact .inr ⟨rfl, rfl⟩
  · split
    · rename_i h
      refine .inl ⟨rfl, fun hn => ?_, ?_⟩
      · rw [hn] at h; simp [placeL] at h
      · rcases shO_cases (delL (osL r.sh) (placeL k (osL r.sh) 0).1) with ⟨_, h2⟩ | ⟨_, h2⟩
        · exact .inr h2
        · exact .inl ⟨_, h2⟩
    · exact .inr ⟨rfl, rfl⟩
theorem getR_sh (r : RfD) (k : Str) : (getR r k).2.sh = r.sh := by
  unfold getR
  split
  · rfl
  · split <;> rfl
theorem failR_sh (r : RfD) (n : Int) : (failR r n).2.sh = r.sh := by
  unfold failR
  split <;> rfl
theorem listRR_sh (r : RfD) (p : Str) : (listRR r p).2.sh = r.sh := by
  unfold listRR
  split <;> rfl
/-- What both lists tell. -/
theorem rel_list {s : StD} {r : RfD} (h : Rel s r) (p : Str) : ∃ (code : Int) (L : List EntS), listR s p = (.tup [osA 3 (shO L), .int .i64 code], stH (called s).2 ++ rowsO (shO L)) ∧ (listRR r p).1 = (code, L) ∧ L.length ≤ 4096 ∧ (osL r.sh = [] → L = []) := by
  obtain ⟨hb, hR⟩ := rel_called h
  by_cases ho : r.owed > 0
  · have h1 : (called s).1 = true := by rw [hb]; simpa using ho
    refine ⟨104, [], ?_, ?_, by simp, fun _ => rfl⟩
    · simp only [listR, h1, if_true]; rfl
    · simp only [listRR, if_pos ho]
  · have h1 : (called s).1 = false := by rw [hb]; simpa using ho
    have h2 : (objs s.es p).map clrE = outR (osL r.sh) p := by rw [rel_objs h]; rfl
    have h3 : (objs s.es p).length = (outR (osL r.sh) p).length := by rw [← h2]; simp
    have h4 := outR_len (osL r.sh) p
    have h5 := h.perm.length_eq
    have h6 := h.len
    refine ⟨0, outR (osL r.sh) p, ?_, ?_, by omega, fun hn => by rw [hn]; rfl⟩
    · by_cases h0 : objs s.es p = []
      · have h7 : outR (osL r.sh) p = [] := by rw [← h2, h0]; rfl
        simp only [listR, h1, Bool.false_eq_true, if_false, if_pos h0, h7]; simp [shO, osA, rowsO]
      · have h7 : outR (osL r.sh) p ≠ [] := fun hn => h0 (List.length_eq_zero_iff.1 (by rw [h3, hn]; rfl))
        simp only [listR, h1, Bool.false_eq_true, if_false, if_neg h0]
        rw [show shO (outR (osL r.sh) p) = some (outR (osL r.sh) p, none) by simp [shO, h7], h2, h3]
        rfl
    · simp only [listRR, if_neg ho]
theorem same_at {L : List EntS} (h : L.length ≤ 4096) : pf5 25 (eSm (some (L, none), some (L, none))) (hSm (some (L, none), some (L, none))) = some (.bool true) := by
  have := at25 (some (L, none), some (L, none)) ⟨by simp only [osL]; omega, by simp only [osL]; omega⟩
  rw [decide_eq_true rfl] at this
  exact this
theorem same_nil : pf5 25 [.snil, .snil] [] = some (.bool true) := by
  have := at25 (none, none) ⟨by simp [osL], by simp [osL]⟩
  exact this

set_option maxHeartbeats 4000000 in
theorem act_n (s : StD) (m : Int) (o c : Int) (x : ActD) (h : FitA s ⟨m, none, o, c⟩ x) : F24n.spec spA2 0 [.ptr 0 0, .ptr 1 0, actA x] (pH s ⟨m, none, o, c⟩) = some (resAc (s, ⟨m, none, o, c⟩, x)) := by
  obtain ⟨hf1, hf2, hf3⟩ := rel_fits h.rel
  have hes := called_es s
  refine spec_of rfl (bh_row rfl (bh_row rfl (bh_hid (clM _) rfl (bh_hid (clC _) rfl rfl)))) ?_
  refine ev_ite rfl rfl (fun hk => ?_) (fun hk => ?_)
  · have hk' : x.kind < 4 := by simpa using hk
    have A := at13 s x.key x.data x.n hf1
    have B := at32 ⟨m, none, o, c⟩ x.key x.data x.n h.key hf3
    obtain ⟨hcode, hrel⟩ := rel_put h.rel x.key x.data x.n
    have hsh := putR_sh ⟨m, none, o, c⟩ x.key x.data x.n
    have hres : resAc (s, ⟨m, none, o, c⟩, x) = (.bool true, pH2 (none) (put s x.key x.data x.n).2 (putR ⟨m, none, o, c⟩ x.key x.data x.n).2.1 (putR ⟨m, none, o, c⟩ x.key x.data x.n).2.2) := by simp only [resAc, actS, actR, if_pos hk']
    rw [hres]
    unfold resPut at B
    simp only at B
    rw [← hcode] at B
    generalize putR ⟨m, none, o, c⟩ x.key x.data x.n = P at B hsh ⊢
    obtain ⟨cd, r', fresh⟩ := P
    generalize put s x.key x.data x.n = Q at A B ⊢
    obtain ⟨cd2, s'⟩ := Q
    obtain ⟨m', sh', o', c'⟩ := r'
    simp only at A B hsh ⊢
    refine ev_call (f := 13) (sp := spA2) rfl (ih_row rfl (ih_hid (clM _) rfl (ih_hid (clC _) rfl rfl))) A rfl (bh_row rfl (bh_hid (clM _) rfl (bh_hid (clC _) rfl rfl))) ?_
    simp only [List.cons_append, List.nil_append]
    rcases hsh with ⟨rfl, l, hl⟩ | ⟨rfl, hl⟩
    · subst hl
      refine ev_call (f := 32) (sp := spA2) rfl (ih_row rfl rfl) B rfl (bh_row rfl (bh_hid (clR _) rfl rfl)) ?_
      simp only [List.cons_append, List.nil_append]
      refine ev_yes rfl (op_eql (by simp)) ?_
      exact ev_ret rfl (ih_row rfl (ih_row rfl (ih_hid (clM _) rfl (ih_hid (clC _) rfl (ih_hid (clR _) rfl rfl)))))
    · subst hl
      refine ev_callN2 (f := 32) (sp := spA2) rfl (ih_row rfl rfl) B rfl (by first | rfl | exact bh_row rfl rfl | exact bh_row rfl (bh_hid (clR _) rfl rfl) | exact bh_row rfl (bh_hid (clR _) rfl (bh_hid (clR _) rfl rfl))) ?_
      refine ev_call (f := 32) (sp := spA2) rfl (ih_row rfl rfl) B rfl (bh_row rfl rfl) ?_
      simp only [List.cons_append, List.nil_append]
      refine ev_yes rfl (op_eql (by simp)) ?_
      exact ev_ret rfl (ih_row rfl (ih_row rfl (ih_hid (clM _) rfl (ih_hid (clC _) rfl rfl))))
  · have hk' : ¬ x.kind < 4 := by simpa using hk
    refine ev_ite rfl rfl (fun hk2 => ?_) (fun hk2 => ?_)
    · have hk2' : x.kind < 6 := by simpa using hk2
      have A := at14 s x.key hf1
      have B := at33 ⟨m, none, o, c⟩ x.key h.key hf3
      obtain ⟨hcode, hrel⟩ := rel_get h.rel x.key
      have hsh := getR_sh ⟨m, none, o, c⟩ x.key
      have hres : resAc (s, ⟨m, none, o, c⟩, x) = (.bool true, pH2 (none) (called s).2 (getR ⟨m, none, o, c⟩ x.key).2 false) := by simp only [resAc, actS, actR, if_neg hk', if_pos hk2']
      rw [hres]
      unfold resGet at B
      simp only at B
      rw [← hcode] at B
      generalize getR ⟨m, none, o, c⟩ x.key = P at B hsh ⊢
      obtain ⟨cd, r'⟩ := P
      obtain ⟨m', sh', o', c'⟩ := r'
      simp only at B hsh ⊢
      subst hsh
      refine ev_call (f := 14) (sp := spA2) rfl (ih_row rfl (ih_hid (clM _) rfl (ih_hid (clC _) rfl rfl))) A rfl (bh_row rfl (bh_hid (clM _) rfl (bh_hid (clC _) rfl rfl))) ?_
      simp only [List.cons_append, List.nil_append]
      refine ev_call (f := 33) (sp := spA2) rfl (ih_row rfl rfl) B rfl (bh_row rfl rfl) ?_
      simp only [List.cons_append, List.nil_append]
      refine ev_yes rfl (op_eqlS (by simp)) ?_
      refine ev_yes rfl (op_eql (by simp)) ?_
      exact ev_ret rfl (ih_row rfl (ih_row rfl (ih_hid (clM _) rfl (ih_hid (clC _) rfl rfl))))
    · have hk2' : ¬ x.kind < 6 := by simpa using hk2
      refine ev_ite rfl rfl (fun hk3 => ?_) (fun hk3 => ?_)
      · have hk3' : x.kind = 6 := by simpa using hk3
        have A := at16 s x.key hf1 (hf2 _)
        have B := at34 ⟨m, none, o, c⟩ x.key hf3
        obtain ⟨cd, L, e1, e2, e3, e4⟩ := rel_list h.rel x.key
        have hsh := listRR_sh ⟨m, none, o, c⟩ x.key
        have hres : resAc (s, ⟨m, none, o, c⟩, x) = (.bool true, pH2 (none) (called s).2 (listRR ⟨m, none, o, c⟩ x.key).2 false) := by simp only [resAc, actS, actR, if_neg hk', if_neg hk2', if_pos hk3']
        rw [hres]
        rw [e1] at A
        unfold resList at B
        simp only [e2] at B
        generalize (listRR ⟨m, none, o, c⟩ x.key).2 = r' at B hsh ⊢
        obtain ⟨m', sh', o', c'⟩ := r'
        simp only at hsh
        subst hsh
        generalize (called s).2 = s' at A ⊢
        rcases shO_cases L with ⟨hL, hs⟩ | ⟨hL, hs⟩
        · rw [hs] at A B
          refine ev_callN2 (f := 16) (sp := spA2) rfl (ih_row rfl (ih_hid (clM _) rfl (ih_hid (clC _) rfl rfl))) A rfl (bh_row rfl (bh_hid (clM _) rfl (bh_hid (clC _) rfl rfl))) ?_
          refine ev_call (f := 16) (sp := spA2) rfl (ih_row rfl (ih_hid (clM _) rfl (ih_hid (clC _) rfl rfl))) A rfl (bh_row rfl (bh_hid (clM _) rfl (bh_hid (clC _) rfl rfl))) ?_
          simp only [List.cons_append, List.nil_append]
          refine ev_call (f := 34) (sp := spA2) rfl (ih_row rfl rfl) B rfl (bh_row rfl rfl) ?_
          simp only [List.cons_append, List.nil_append]
          refine ev_pite (f := 25) (sp := spA2) rfl rfl same_nil (fun _ => ?_) (fun hb => by cases hb)
          refine ev_yes rfl (op_eql (by simp)) ?_
          refine ev_call (f := 26) (sp := spA2) rfl rfl (at26 none (by simp [osL])) rfl rfl ?_
          exact ev_ret rfl (ih_row rfl (ih_row rfl (ih_hid (clM _) rfl (ih_hid (clC _) rfl rfl))))
        · rw [hs] at A B
          exact absurd (e4 rfl) hL
      · have hk3' : ¬ x.kind = 6 := by simpa using hk3
        refine ev_ite rfl rfl (fun hk4 => ?_) (fun hk4 => ?_)
        · have hk4' : x.kind < 9 := by simpa using hk4
          have A := at20 s x.key hf1
          have B := at35 ⟨m, none, o, c⟩ x.key h.key hf3
          obtain ⟨hcode, hrel⟩ := rel_del h.rel x.key
          have hsh := delR_sh ⟨m, none, o, c⟩ x.key
          have hres : resAc (s, ⟨m, none, o, c⟩, x) = (.bool true, pH2 (none) (del s x.key).2 (delR ⟨m, none, o, c⟩ x.key).2.1 (delR ⟨m, none, o, c⟩ x.key).2.2) := by simp only [resAc, actS, actR, if_neg hk', if_neg hk2', if_neg hk3', if_pos hk4']
          rw [hres]
          unfold resDel at B
          simp only at B
          rw [← hcode] at B
          generalize delR ⟨m, none, o, c⟩ x.key = P at B hsh ⊢
          obtain ⟨cd, r', fresh⟩ := P
          generalize del s x.key = Q at A B ⊢
          obtain ⟨cd2, s'⟩ := Q
          obtain ⟨m', sh', o', c'⟩ := r'
          simp only at A B hsh ⊢
          refine ev_call (f := 20) (sp := spA2) rfl (ih_row rfl (ih_hid (clM _) rfl (ih_hid (clC _) rfl rfl))) A rfl (bh_row rfl (bh_hid (clM _) rfl (bh_hid (clC _) rfl rfl))) ?_
          simp only [List.cons_append, List.nil_append]
          rcases hsh with ⟨_, hn, _⟩ | ⟨rfl, hl⟩
          · exact absurd rfl hn
          · subst hl
            refine ev_callN2 (f := 35) (sp := spA2) rfl (ih_row rfl rfl) B rfl (by first | rfl | exact bh_row rfl rfl | exact bh_row rfl (bh_hid (clR _) rfl rfl) | exact bh_row rfl (bh_hid (clR _) rfl (bh_hid (clR _) rfl rfl))) ?_
            refine ev_call (f := 35) (sp := spA2) rfl (ih_row rfl rfl) B rfl (bh_row rfl rfl) ?_
            simp only [List.cons_append, List.nil_append]
            refine ev_yes rfl (op_eql (by simp)) ?_
            exact ev_ret rfl (ih_row rfl (ih_row rfl (ih_hid (clM _) rfl (ih_hid (clC _) rfl rfl))))
        · have hk4' : ¬ x.kind < 9 := by simpa using hk4
          have A := at17 s x.n hf1
          have B := at36 ⟨m, none, o, c⟩ x.n
          obtain ⟨hcode, hrel⟩ := rel_fail h.rel x.n h.n
          have hsh := failR_sh ⟨m, none, o, c⟩ x.n
          have hres : resAc (s, ⟨m, none, o, c⟩, x) = (.bool true, pH2 (none) (fail s x.n).2 (failR ⟨m, none, o, c⟩ x.n).2 false) := by simp only [resAc, actS, actR, if_neg hk', if_neg hk2', if_neg hk3', if_neg hk4']
          rw [hres]
          unfold resFail at B
          simp only at B
          rw [← hcode] at B
          generalize failR ⟨m, none, o, c⟩ x.n = P at B hsh ⊢
          obtain ⟨cd, r'⟩ := P
          obtain ⟨m', sh', o', c'⟩ := r'
          generalize fail s x.n = Q at A B ⊢
          obtain ⟨cd2, s'⟩ := Q
          simp only at A B hsh ⊢
          subst hsh
          refine ev_call (f := 17) (sp := spA2) rfl (ih_row rfl (ih_hid (clM _) rfl (ih_hid (clC _) rfl rfl))) A rfl (bh_row rfl (bh_hid (clM _) rfl (bh_hid (clC _) rfl rfl))) ?_
          simp only [List.cons_append, List.nil_append]
          refine ev_call (f := 36) (sp := spA2) rfl (ih_row rfl rfl) B rfl (bh_row rfl rfl) ?_
          simp only [List.cons_append, List.nil_append]
          refine ev_yes rfl (op_eql (by simp)) ?_
          exact ev_ret rfl (ih_row rfl (ih_row rfl (ih_hid (clM _) rfl (ih_hid (clC _) rfl rfl))))

set_option maxHeartbeats 4000000 in
theorem act_o (s : StD) (m : Int) (os : List EntS) (cap : Option Nat) (o c : Int) (x : ActD) (h : FitA s ⟨m, some (os, cap), o, c⟩ x) : F24o.spec spA2 0 [.ptr 0 0, .ptr 1 0, actA x] (pH s ⟨m, some (os, cap), o, c⟩) = some (resAc (s, ⟨m, some (os, cap), o, c⟩, x)) := by
  obtain ⟨hf1, hf2, hf3⟩ := rel_fits h.rel
  have hes := called_es s
  refine spec_of rfl (bh_row rfl (bh_row rfl (bh_hid (clM _) rfl (bh_hid (clC _) rfl (bh_hid (clR _) rfl rfl))))) ?_
  refine ev_ite rfl rfl (fun hk => ?_) (fun hk => ?_)
  · have hk' : x.kind < 4 := by simpa using hk
    have A := at13 s x.key x.data x.n hf1
    have B := at32 ⟨m, some (os, cap), o, c⟩ x.key x.data x.n h.key hf3
    obtain ⟨hcode, hrel⟩ := rel_put h.rel x.key x.data x.n
    have hsh := putR_sh ⟨m, some (os, cap), o, c⟩ x.key x.data x.n
    have hres : resAc (s, ⟨m, some (os, cap), o, c⟩, x) = (.bool true, pH2 (some (os, cap)) (put s x.key x.data x.n).2 (putR ⟨m, some (os, cap), o, c⟩ x.key x.data x.n).2.1 (putR ⟨m, some (os, cap), o, c⟩ x.key x.data x.n).2.2) := by simp only [resAc, actS, actR, if_pos hk']
    rw [hres]
    unfold resPut at B
    simp only at B
    rw [← hcode] at B
    generalize putR ⟨m, some (os, cap), o, c⟩ x.key x.data x.n = P at B hsh ⊢
    obtain ⟨cd, r', fresh⟩ := P
    generalize put s x.key x.data x.n = Q at A B ⊢
    obtain ⟨cd2, s'⟩ := Q
    obtain ⟨m', sh', o', c'⟩ := r'
    simp only at A B hsh ⊢
    refine ev_call (f := 13) (sp := spA2) rfl (ih_row rfl (ih_hid (clM _) rfl (ih_hid (clC _) rfl rfl))) A rfl (bh_row rfl (bh_hid (clM _) rfl (bh_hid (clC _) rfl rfl))) ?_
    simp only [List.cons_append, List.nil_append]
    rcases hsh with ⟨rfl, l, hl⟩ | ⟨rfl, hl⟩
    · subst hl
      refine ev_call (f := 32) (sp := spA2) rfl (ih_row rfl (ih_hid (clR _) rfl rfl)) B rfl (bh_row rfl (bh_hid (clR _) rfl (bh_hid (clR _) rfl rfl))) ?_
      simp only [List.cons_append, List.nil_append]
      refine ev_yes rfl (op_eql (by simp)) ?_
      exact ev_ret rfl (ih_row rfl (ih_row rfl (ih_hid (clM _) rfl (ih_hid (clC _) rfl (ih_hid (clR _) rfl (ih_hid (clR _) rfl rfl))))))
    · subst hl
      refine ev_callN2 (f := 32) (sp := spA2) rfl (ih_row rfl (ih_hid (clR _) rfl rfl)) B rfl (by first | rfl | exact bh_row rfl rfl | exact bh_row rfl (bh_hid (clR _) rfl rfl) | exact bh_row rfl (bh_hid (clR _) rfl (bh_hid (clR _) rfl rfl))) ?_
      refine ev_call (f := 32) (sp := spA2) rfl (ih_row rfl (ih_hid (clR _) rfl rfl)) B rfl (bh_row rfl (bh_hid (clR _) rfl rfl)) ?_
      simp only [List.cons_append, List.nil_append]
      refine ev_yes rfl (op_eql (by simp)) ?_
      exact ev_ret rfl (ih_row rfl (ih_row rfl (ih_hid (clM _) rfl (ih_hid (clC _) rfl (ih_hid (clR _) rfl rfl)))))
  · have hk' : ¬ x.kind < 4 := by simpa using hk
    refine ev_ite rfl rfl (fun hk2 => ?_) (fun hk2 => ?_)
    · have hk2' : x.kind < 6 := by simpa using hk2
      have A := at14 s x.key hf1
      have B := at33 ⟨m, some (os, cap), o, c⟩ x.key h.key hf3
      obtain ⟨hcode, hrel⟩ := rel_get h.rel x.key
      have hsh := getR_sh ⟨m, some (os, cap), o, c⟩ x.key
      have hres : resAc (s, ⟨m, some (os, cap), o, c⟩, x) = (.bool true, pH2 (some (os, cap)) (called s).2 (getR ⟨m, some (os, cap), o, c⟩ x.key).2 false) := by simp only [resAc, actS, actR, if_neg hk', if_pos hk2']
      rw [hres]
      unfold resGet at B
      simp only at B
      rw [← hcode] at B
      generalize getR ⟨m, some (os, cap), o, c⟩ x.key = P at B hsh ⊢
      obtain ⟨cd, r'⟩ := P
      obtain ⟨m', sh', o', c'⟩ := r'
      simp only at B hsh ⊢
      subst hsh
      refine ev_call (f := 14) (sp := spA2) rfl (ih_row rfl (ih_hid (clM _) rfl (ih_hid (clC _) rfl rfl))) A rfl (bh_row rfl (bh_hid (clM _) rfl (bh_hid (clC _) rfl rfl))) ?_
      simp only [List.cons_append, List.nil_append]
      refine ev_call (f := 33) (sp := spA2) rfl (ih_row rfl (ih_hid (clR _) rfl rfl)) B rfl (bh_row rfl (bh_hid (clR _) rfl rfl)) ?_
      simp only [List.cons_append, List.nil_append]
      refine ev_yes rfl (op_eqlS (by simp)) ?_
      refine ev_yes rfl (op_eql (by simp)) ?_
      exact ev_ret rfl (ih_row rfl (ih_row rfl (ih_hid (clM _) rfl (ih_hid (clC _) rfl (ih_hid (clR _) rfl rfl)))))
    · have hk2' : ¬ x.kind < 6 := by simpa using hk2
      refine ev_ite rfl rfl (fun hk3 => ?_) (fun hk3 => ?_)
      · have hk3' : x.kind = 6 := by simpa using hk3
        have A := at16 s x.key hf1 (hf2 _)
        have B := at34 ⟨m, some (os, cap), o, c⟩ x.key hf3
        obtain ⟨cd, L, e1, e2, e3, e4⟩ := rel_list h.rel x.key
        have hsh := listRR_sh ⟨m, some (os, cap), o, c⟩ x.key
        have hres : resAc (s, ⟨m, some (os, cap), o, c⟩, x) = (.bool true, pH2 (some (os, cap)) (called s).2 (listRR ⟨m, some (os, cap), o, c⟩ x.key).2 false) := by simp only [resAc, actS, actR, if_neg hk', if_neg hk2', if_pos hk3']
        rw [hres]
        rw [e1] at A
        unfold resList at B
        simp only [e2] at B
        generalize (listRR ⟨m, some (os, cap), o, c⟩ x.key).2 = r' at B hsh ⊢
        obtain ⟨m', sh', o', c'⟩ := r'
        simp only at hsh
        subst hsh
        generalize (called s).2 = s' at A ⊢
        rcases shO_cases L with ⟨hL, hs⟩ | ⟨hL, hs⟩
        · rw [hs] at A B
          refine ev_callN2 (f := 16) (sp := spA2) rfl (ih_row rfl (ih_hid (clM _) rfl (ih_hid (clC _) rfl rfl))) A rfl (bh_row rfl (bh_hid (clM _) rfl (bh_hid (clC _) rfl rfl))) ?_
          refine ev_call (f := 16) (sp := spA2) rfl (ih_row rfl (ih_hid (clM _) rfl (ih_hid (clC _) rfl rfl))) A rfl (bh_row rfl (bh_hid (clM _) rfl (bh_hid (clC _) rfl rfl))) ?_
          simp only [List.cons_append, List.nil_append]
          refine ev_callN2 (f := 34) (sp := spA2) rfl (ih_row rfl (ih_hid (clR _) rfl rfl)) B rfl (by first | rfl | exact bh_row rfl rfl | exact bh_row rfl (bh_hid (clR _) rfl rfl) | exact bh_row rfl (bh_hid (clR _) rfl (bh_hid (clR _) rfl rfl))) ?_
          refine ev_call (f := 34) (sp := spA2) rfl (ih_row rfl (ih_hid (clR _) rfl rfl)) B rfl (bh_row rfl (bh_hid (clR _) rfl rfl)) ?_
          simp only [List.cons_append, List.nil_append]
          refine ev_pite (f := 25) (sp := spA2) rfl rfl same_nil (fun _ => ?_) (fun hb => by cases hb)
          refine ev_yes rfl (op_eql (by simp)) ?_
          refine ev_call (f := 26) (sp := spA2) rfl rfl (at26 none (by simp [osL])) rfl rfl ?_
          exact ev_ret rfl (ih_row rfl (ih_row rfl (ih_hid (clM _) rfl (ih_hid (clC _) rfl (ih_hid (clR _) rfl rfl)))))
        · rw [hs] at A B
          refine ev_call (f := 16) (sp := spA2) rfl (ih_row rfl (ih_hid (clM _) rfl (ih_hid (clC _) rfl rfl))) A rfl (bh_row rfl (bh_hid (clM _) rfl (bh_hid (clC _) rfl (bh_hid (clR _) rfl rfl)))) ?_
          simp only [List.cons_append, List.nil_append]
          refine ev_call (f := 34) (sp := spA2) rfl (ih_row rfl (ih_hid (clR _) rfl rfl)) B rfl (bh_row rfl (bh_hid (clR _) rfl (bh_hid (clR _) rfl rfl))) ?_
          simp only [List.cons_append, List.nil_append]
          refine ev_pite (f := 25) (sp := spA2) rfl (ih_hid (clR _) rfl (ih_hid (clR _) rfl rfl)) (same_at e3) (fun _ => ?_) (fun hb => by cases hb)
          refine ev_yes rfl (op_eql (by simp)) ?_
          refine ev_call (f := 26) (sp := spA2) rfl (ih_hid (clR _) rfl rfl) (at26 (some (L, none)) (by simp only [osL]; omega)) rfl (bh_hid (clR _) rfl rfl) ?_
          exact ev_ret rfl (ih_row rfl (ih_row rfl (ih_hid (clM _) rfl (ih_hid (clC _) rfl (ih_hid (clR _) rfl rfl)))))
      · have hk3' : ¬ x.kind = 6 := by simpa using hk3
        refine ev_ite rfl rfl (fun hk4 => ?_) (fun hk4 => ?_)
        · have hk4' : x.kind < 9 := by simpa using hk4
          have A := at20 s x.key hf1
          have B := at35 ⟨m, some (os, cap), o, c⟩ x.key h.key hf3
          obtain ⟨hcode, hrel⟩ := rel_del h.rel x.key
          have hsh := delR_sh ⟨m, some (os, cap), o, c⟩ x.key
          have hres : resAc (s, ⟨m, some (os, cap), o, c⟩, x) = (.bool true, pH2 (some (os, cap)) (del s x.key).2 (delR ⟨m, some (os, cap), o, c⟩ x.key).2.1 (delR ⟨m, some (os, cap), o, c⟩ x.key).2.2) := by simp only [resAc, actS, actR, if_neg hk', if_neg hk2', if_neg hk3', if_pos hk4']
          rw [hres]
          unfold resDel at B
          simp only at B
          rw [← hcode] at B
          generalize delR ⟨m, some (os, cap), o, c⟩ x.key = P at B hsh ⊢
          obtain ⟨cd, r', fresh⟩ := P
          generalize del s x.key = Q at A B ⊢
          obtain ⟨cd2, s'⟩ := Q
          obtain ⟨m', sh', o', c'⟩ := r'
          simp only at A B hsh ⊢
          refine ev_call (f := 20) (sp := spA2) rfl (ih_row rfl (ih_hid (clM _) rfl (ih_hid (clC _) rfl rfl))) A rfl (bh_row rfl (bh_hid (clM _) rfl (bh_hid (clC _) rfl rfl))) ?_
          simp only [List.cons_append, List.nil_append]
          rcases hsh with ⟨rfl, hn, ⟨l, hl⟩ | hl⟩ | ⟨rfl, hl⟩
          · subst hl
            refine ev_call (f := 35) (sp := spA2) rfl (ih_row rfl (ih_hid (clR _) rfl rfl)) B rfl (bh_row rfl (bh_hid (clR _) rfl (bh_hid (clR _) rfl rfl))) ?_
            simp only [List.cons_append, List.nil_append]
            refine ev_yes rfl (op_eql (by simp)) ?_
            exact ev_ret rfl (ih_row rfl (ih_row rfl (ih_hid (clM _) rfl (ih_hid (clC _) rfl (ih_hid (clR _) rfl (ih_hid (clR _) rfl rfl))))))
          · subst hl
            refine ev_callN2 (f := 35) (sp := spA2) rfl (ih_row rfl (ih_hid (clR _) rfl rfl)) B rfl (by first | rfl | exact bh_row rfl rfl | exact bh_row rfl (bh_hid (clR _) rfl rfl) | exact bh_row rfl (bh_hid (clR _) rfl (bh_hid (clR _) rfl rfl))) ?_
            refine ev_call (f := 35) (sp := spA2) rfl (ih_row rfl (ih_hid (clR _) rfl rfl)) B rfl (bh_row rfl (bh_hid (clR _) rfl rfl)) ?_
            simp only [List.cons_append, List.nil_append]
            refine ev_yes rfl (op_eql (by simp)) ?_
            exact ev_ret rfl (ih_row rfl (ih_row rfl (ih_hid (clM _) rfl (ih_hid (clC _) rfl (ih_hid (clR _) rfl rfl)))))
          · subst hl
            refine ev_callN2 (f := 35) (sp := spA2) rfl (ih_row rfl (ih_hid (clR _) rfl rfl)) B rfl (by first | rfl | exact bh_row rfl rfl | exact bh_row rfl (bh_hid (clR _) rfl rfl) | exact bh_row rfl (bh_hid (clR _) rfl (bh_hid (clR _) rfl rfl))) ?_
            refine ev_callN2 (f := 35) (sp := spA2) rfl (ih_row rfl (ih_hid (clR _) rfl rfl)) B rfl (by first | rfl | exact bh_row rfl rfl | exact bh_row rfl (bh_hid (clR _) rfl rfl) | exact bh_row rfl (bh_hid (clR _) rfl (bh_hid (clR _) rfl rfl))) ?_
            refine ev_call (f := 35) (sp := spA2) rfl (ih_row rfl (ih_hid (clR _) rfl rfl)) B rfl (bh_row rfl (bh_hid (clR _) rfl rfl)) ?_
            simp only [List.cons_append, List.nil_append]
            refine ev_yes rfl (op_eql (by simp)) ?_
            exact ev_ret rfl (ih_row rfl (ih_row rfl (ih_hid (clM _) rfl (ih_hid (clC _) rfl (ih_hid (clR _) rfl rfl)))))
        · have hk4' : ¬ x.kind < 9 := by simpa using hk4
          have A := at17 s x.n hf1
          have B := at36 ⟨m, some (os, cap), o, c⟩ x.n
          obtain ⟨hcode, hrel⟩ := rel_fail h.rel x.n h.n
          have hsh := failR_sh ⟨m, some (os, cap), o, c⟩ x.n
          have hres : resAc (s, ⟨m, some (os, cap), o, c⟩, x) = (.bool true, pH2 (some (os, cap)) (fail s x.n).2 (failR ⟨m, some (os, cap), o, c⟩ x.n).2 false) := by simp only [resAc, actS, actR, if_neg hk', if_neg hk2', if_neg hk3', if_neg hk4']
          rw [hres]
          unfold resFail at B
          simp only at B
          rw [← hcode] at B
          generalize failR ⟨m, some (os, cap), o, c⟩ x.n = P at B hsh ⊢
          obtain ⟨cd, r'⟩ := P
          obtain ⟨m', sh', o', c'⟩ := r'
          generalize fail s x.n = Q at A B ⊢
          obtain ⟨cd2, s'⟩ := Q
          simp only at A B hsh ⊢
          subst hsh
          refine ev_call (f := 17) (sp := spA2) rfl (ih_row rfl (ih_hid (clM _) rfl (ih_hid (clC _) rfl rfl))) A rfl (bh_row rfl (bh_hid (clM _) rfl (bh_hid (clC _) rfl rfl))) ?_
          simp only [List.cons_append, List.nil_append]
          refine ev_call (f := 36) (sp := spA2) rfl (ih_row rfl (ih_hid (clR _) rfl rfl)) B rfl (bh_row rfl (bh_hid (clR _) rfl rfl)) ?_
          simp only [List.cons_append, List.nil_append]
          refine ev_yes rfl (op_eql (by simp)) ?_
          exact ev_ret rfl (ih_row rfl (ih_row rfl (ih_hid (clM _) rfl (ih_hid (clC _) rfl (ih_hid (clR _) rfl rfl)))))

theorem k24 : SpecB Tryd.prog 24 g24 := knownM_spec fun x hx => by
  obtain ⟨s, ⟨m, sh, o, c⟩, a⟩ := x
  match sh, hx with
  | none, hx => exact ⟨_, F24n_spec spA2_ok 0, act_n s m o c a hx⟩
  | some (os, cap), hx => exact ⟨_, F24o_spec spA2_ok 0, act_o s m os cap o c a hx⟩
theorem act_rel {s : StD} {r : RfD} {a : ActD} (h : FitA s r a) : Rel (actS s a) (actR r a).1 := by
  unfold actS actR
  by_cases h1 : a.kind < 4
  · rw [if_pos h1, if_pos h1]; exact (rel_put h.rel _ _ _).2
  · rw [if_neg h1, if_neg h1]
    by_cases h2 : a.kind < 6
    · rw [if_pos h2, if_pos h2]; exact (rel_get h.rel _).2
    · rw [if_neg h2, if_neg h2]
      by_cases h3 : a.kind = 6
      · rw [if_pos h3, if_pos h3]
        have e : (listRR r a.key).2 = calledR r := by
          unfold listRR calledR
          split <;> rfl
        rw [e]
        exact (rel_called h.rel).2
      · rw [if_neg h3, if_neg h3]
        by_cases h4 : a.kind < 9
        · rw [if_pos h4, if_pos h4]; exact (rel_del h.rel _).2
        · rw [if_neg h4, if_neg h4]; exact (rel_fail h.rel _ h.n).2
end Go.Proofs.BoatV
