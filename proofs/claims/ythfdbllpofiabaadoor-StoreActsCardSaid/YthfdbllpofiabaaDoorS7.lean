/- Contracts: all, All: the objects whose keys begin so, by key. -/
import Derived.Test.YthfdbllpofiabaaDoorS6
namespace Go.Proofs.BoatV
open Go
set_option linter.unusedVariables false
noncomputable def pf2 : FuncId → List AV → Heap → Option AV
  | 41 => g41
  | f => pf1 f
noncomputable def spf : FuncId → Spec
  | 13 => g13
  | 14 => g14
  | 17 => g17
  | 20 => g20
  | 27 => g27
  | 31 => cloneSpec
  | 39 => sortedSpec 55
  | _ => fun _ _ => none
theorem spf_ok (f : FuncId) : SpecB Tryd.prog f (spf f) := by
  unfold spf
  split
  · exact k13
  · exact k14
  · exact k17
  · exact k20
  · exact k27
  · exact cloneS.bare
  · exact sortedS.bare
  · exact none_ok _
theorem pf2_ok (f : FuncId) : SpecB Tryd.prog f (pure1 (pf2 f)) := by
  unfold pf2
  split
  · exact k41
  · exact spB_ok.2 _
noncomputable def spC : Sps := ⟨spf, pf2⟩
theorem spC_ok : spC.ok Tryd.prog := ⟨spf_ok, pf2_ok⟩

/-! ### What 'all' answers -/
def keysE (es : List EntS) : List Str := es.map (·.1)
def objE (es : List EntS) (k : Str) : EntS := (k, ((lookE k es 0).map (·.2)).getD ([], 0))
def objs (es : List EntS) (p : Str) : List EntS := ((isort (keysE es)).filter (pre p)).map (objE es)
def cellsO (e : EntS) : List AV := [.str e.1, .str e.2.1, .int .i64 e.2.2]
def rowO (l : List EntS) : List AV := l.flatMap cellsO
theorem rowO_length : ∀ l : List EntS, (rowO l).length = l.length * 3
  | [] => rfl
  | e :: r => by
    have ih := rowO_length r
    simp only [rowO, List.flatMap_cons, List.length_append] at ih ⊢
    simp [ih, cellsO]; omega
theorem rowO_app (l : List EntS) (e : EntS) : rowO (l ++ [e]) = rowO l ++ cellsO e := by simp [rowO]
theorem closedL_app : ∀ {a b : List AV}, closedL a = true → closedL b = true → closedL (a ++ b) = true
  | [], b, _, h => h
  | x :: r, b, h, k => by
    simp only [closedL, Bool.and_eq_true, List.cons_append] at h ⊢
    exact ⟨h.1, closedL_app h.2 k⟩
theorem clR (l : List EntS) : ClO (.row (rowO l)) := ClO.row (by
  induction l with
  | nil => rfl
  | cons e r ih => exact closedL_app (a := cellsO e) rfl ih)
def keysA (ks : List Str) : List AV := ks.map .str
theorem clK (ks : List Str) : ClO (.row (keysA ks)) := ClO.row (closedL_map (fun _ => rfl) ks)
def allR (s : StD) (p : Str) : AV × Heap := if objs s.es p = [] then (.snil, stH s) else (.sl 3 0 (objs s.es p).length 3 none, stH s ++ [.row (rowO (objs s.es p))])
theorem strKeysA_ents : ∀ es : List EntS, strKeysA (es.map entA) = some (keysE es)
  | [] => rfl
  | e :: r => by
    have ih := strKeysA_ents r
    simp only [List.map_cons, entA, strKeysA, keysE] at ih ⊢
    rw [ih]; rfl
theorem lookE_mem (k : Str) : ∀ (es : List EntS) (i : Nat), k ∈ keysE es → ∃ x, lookE k es i = some x
  | [], i, h => by simp [keysE] at h
  | e :: r, i, h => by
    simp only [lookE]
    by_cases hk : k = e.1
    · exact ⟨_, if_pos hk⟩
    · rw [if_neg hk]
      refine lookE_mem k r (i + 1) ?_
      simp only [keysE, List.map_cons, List.mem_cons] at h ⊢
      exact h.resolve_left hk
theorem op_loadK (ks : List Str) (i : Nat) (k : Str) (h : ks[i]? = some k) : opP (.load none) [.ptr 0 (0 + i * 1)] [.row (keysA ks)] = some (.str k) := by
  have h2 : ((keysA ks).drop i).head? = some (.str k) := by
    rw [List.head?_drop]; simp [keysA, h]
  simp [opP, HKey.quiet, opH, rowAt, h2]
theorem op_idxK (j n i : Nat) (h : i < n) : opK (.idxA 1) [.sl j 0 n 1 none, .int .i64 (i : Int)] = some (.ptr j (0 + i * 1)) := by
  have : (i : Int) < (n : Int) := by omega
  simp [opK, this]
theorem allOne_rowO : ∀ l : List EntS, allOne (rowO l) = true
  | [] => rfl
  | e :: r => by
    have ih := allOne_rowO r
    simp only [rowO, List.flatMap_cons] at ih ⊢
    simp [cellsO, allOne, AV.one, ih]
theorem op_appO (o : List EntS) (e : EntS) (h : o.length ≤ 2000000000000) : opH (.app 3 40) [.sl 0 0 o.length 3 none, .sl 1 0 1 3 (some 1)] [.row (rowO o), .row [.str e.1, .str e.2.1, .int .i64 e.2.2]] =
    some (.sl 2 0 (o.length + 1) 3 none, [.dead, .row [.str e.1, .str e.2.1, .int .i64 e.2.2], .row (rowO (o ++ [e]))]) := by
  have h1 : (o.length + 1) * 40 ≤ 140737488355328 := by omega
  rw [rowO_app]
  simp [opH, srcK, rowAt, allOne, AV.one, h1, rowO_length, grownA, cellsO]

variable {es : List EntS} {p : Str} {m c : Int} {ow : List Int} {ks : List Str}
theorem all_go2 (hks : ∀ k ∈ ks, k ∈ keysE es) (hn : ks.length ≤ 1099511627776) : ∀ (q i : Nat) (o : List EntS), ks.length - i ≤ q → i ≤ ks.length → o.length ≤ i →
    F29.next spC (q + 1) 2 [.str p, .sl 0 0 o.length 3 none, .sl 0 0 ks.length 1 none, .int .i64 ks.length, .int .i64 i, .int .i64 m, .int .i64 c] [mapO es, chO ow, .row (rowO o), .row (keysA ks)] =
      some (.sl 3 0 (o ++ ((ks.drop i).filter (pre p)).map (objE es)).length 3 none, [stR m c, mapO es, chO ow, .row (rowO (o ++ ((ks.drop i).filter (pre p)).map (objE es)))]) := by
  have fin : ∀ (q i : Nat) (o : List EntS), i = ks.length → F29.next spC (q + 1) 2 [.str p, .sl 0 0 o.length 3 none, .sl 0 0 ks.length 1 none, .int .i64 ks.length, .int .i64 i, .int .i64 m, .int .i64 c] [mapO es, chO ow, .row (rowO o), .row (keysA ks)] =
      some (.sl 3 0 (o ++ ((ks.drop i).filter (pre p)).map (objE es)).length 3 none, [stR m c, mapO es, chO ow, .row (rowO (o ++ ((ks.drop i).filter (pre p)).map (objE es)))]) := by
    intro q i o hi
    subst hi
    simp only [List.drop_length, List.filter_nil, List.map_nil, List.append_nil]
    refine next_succ rfl ?_
    refine ev_no rfl (op_lss (by simp)) ?_
    exact ev_ret rfl (ih_row rfl (ih_hid (clM _) rfl (ih_hid (clC _) rfl (ih_hid (clR _) rfl rfl))))
  intro q
  induction q with
  | zero => intro i o h1 h2 h3; exact fin 0 i o (by omega)
  | succ q ih =>
    intro i o h1 h2 h3
    rcases Nat.lt_or_ge i ks.length with hi | hi
    · refine next_succ rfl ?_
      refine ev_yes rfl (op_lss (by simp; omega)) ?_
      refine ev_ask rfl (op_idxK 4 ks.length i hi) rfl ?_
      have hk : ks[i]? = some ks[i] := List.getElem?_eq_getElem hi
      have hd : ks.drop i = ks[i] :: ks.drop (i + 1) := List.drop_eq_getElem_cons hi
      have hmem : ks[i] ∈ keysE es := hks _ (List.getElem_mem hi)
      generalize ks[i] = k at hk hd hmem
      refine ev_phop rfl (ih_hid (clK ks) rfl rfl) (op_loadK ks i k hk) rfl ?_
      have wi : IntKind.i64.wrap ((i : Int) + 1) = ((i + 1 : Nat) : Int) := by rw [IntKind.wrap_i64]; omega
      simp only [List.cons_append, List.nil_append]
      refine ev_pite rfl rfl (at41 k p) (fun hp => ?_) (fun hp => ?_)
      · obtain ⟨x, hx⟩ := lookE_mem k es 0 hmem
        refine ev_phop rfl (ih_hid (clM es) rfl rfl) (op_look1 k es x hx) rfl ?_
        simp only [List.cons_append, List.nil_append]
        refine ev_hop rfl (ih_hid (clR o) rfl (ih_row rfl rfl)) (op_appO o (k, x.2.1, x.2.2) (by omega)) rfl (h' := [.dead, .row [.str k, .str x.2.1, .int .i64 x.2.2], .row (rowO (o ++ [(k, x.2.1, x.2.2)]))]) (bh_dead (bh_row rfl (bh_hid (clR _) rfl rfl))) ?_
        simp only [List.cons_append, List.nil_append]
        refine ev_ask rfl rfl rfl ?_
        refine ev_goto rfl (ih_hid (clM _) rfl (ih_hid (clC _) rfl (ih_hid (clR _) rfl (ih_hid (clK _) rfl rfl)))) ?_
        rw [wi]
        have eo : objE es k = (k, x.2.1, x.2.2) := by simp [objE, hx]
        have := ih (i + 1) (o ++ [(k, x.2.1, x.2.2)]) (by omega) (by omega) (by simp; omega)
        rw [hd, List.filter_cons_of_pos hp, List.map_cons, eo]
        simpa using this
      · refine ev_ask rfl rfl rfl ?_
        refine ev_goto rfl (ih_hid (clM _) rfl (ih_hid (clC _) rfl (ih_hid (clR _) rfl (ih_hid (clK _) rfl rfl)))) ?_
        rw [wi]
        have := ih (i + 1) o (by omega) (by omega) (by omega)
        rw [hd, List.filter_cons_of_neg (by rw [hp]; simp)]
        exact this
    · exact fin (q + 1) i o (by omega)
theorem all_go1 (hks : ∀ k ∈ ks, k ∈ keysE es) (hn : ks.length ≤ 1099511627776) : ∀ (q i : Nat), ks.length - i ≤ q → i ≤ ks.length →
    F29.next spC (q + 2) 1 [.str p, .sl 0 0 ks.length 1 none, .int .i64 ks.length, .int .i64 i, .int .i64 m, .int .i64 c] [mapO es, chO ow, .row (keysA ks)] =
      some (if ((ks.drop i).filter (pre p)).map (objE es) = [] then (.snil, [stR m c, mapO es, chO ow]) else (.sl 3 0 (((ks.drop i).filter (pre p)).map (objE es)).length 3 none, [stR m c, mapO es, chO ow, .row (rowO (((ks.drop i).filter (pre p)).map (objE es)))])) := by
  have fin : ∀ (q i : Nat), i = ks.length → F29.next spC (q + 1) 1 [.str p, .sl 0 0 ks.length 1 none, .int .i64 ks.length, .int .i64 i, .int .i64 m, .int .i64 c] [mapO es, chO ow, .row (keysA ks)] =
      some (if ((ks.drop i).filter (pre p)).map (objE es) = [] then (.snil, [stR m c, mapO es, chO ow]) else (.sl 3 0 (((ks.drop i).filter (pre p)).map (objE es)).length 3 none, [stR m c, mapO es, chO ow, .row (rowO (((ks.drop i).filter (pre p)).map (objE es)))])) := by
    intro q i hi
    subst hi
    simp only [List.drop_length, List.filter_nil, List.map_nil, if_true]
    refine next_succ rfl ?_
    refine ev_no rfl (op_lss (by simp)) ?_
    exact ev_ret rfl (ih_row rfl (ih_hid (clM _) rfl (ih_hid (clC _) rfl rfl)))
  intro q
  induction q with
  | zero => intro i h1 h2; exact fin 1 i (by omega)
  | succ q ih =>
    intro i h1 h2
    rcases Nat.lt_or_ge i ks.length with hi | hi
    · refine next_succ rfl ?_
      refine ev_yes rfl (op_lss (by simp; omega)) ?_
      refine ev_ask rfl (op_idxK 3 ks.length i hi) rfl ?_
      have hk : ks[i]? = some ks[i] := List.getElem?_eq_getElem hi
      have hd : ks.drop i = ks[i] :: ks.drop (i + 1) := List.drop_eq_getElem_cons hi
      have hmem : ks[i] ∈ keysE es := hks _ (List.getElem_mem hi)
      generalize ks[i] = k at hk hd hmem
      refine ev_phop rfl (ih_hid (clK ks) rfl rfl) (op_loadK ks i k hk) rfl ?_
      have wi : IntKind.i64.wrap ((i : Int) + 1) = ((i + 1 : Nat) : Int) := by rw [IntKind.wrap_i64]; omega
      simp only [List.cons_append, List.nil_append]
      refine ev_pite rfl rfl (at41 k p) (fun hp => ?_) (fun hp => ?_)
      · obtain ⟨x, hx⟩ := lookE_mem k es 0 hmem
        refine ev_phop rfl (ih_hid (clM es) rfl rfl) (op_look1 k es x hx) rfl ?_
        simp only [List.cons_append, List.nil_append]
        refine ev_ask rfl rfl rfl ?_
        refine ev_goto rfl (ih_hid (clM _) rfl (ih_hid (clC _) rfl (ih_row rfl (ih_hid (clK _) rfl rfl)))) ?_
        rw [wi]
        have eo : objE es k = (k, x.2.1, x.2.2) := by simp [objE, hx]
        have := all_go2 (p := p) (m := m) (c := c) (ow := ow) hks hn (q + 1) (i + 1) [(k, x.2.1, x.2.2)] (by omega) (by omega) (by simp)
        rw [hd, List.filter_cons_of_pos hp, List.map_cons, eo, if_neg (by simp)]
        exact this
      · refine ev_ask rfl rfl rfl ?_
        refine ev_goto rfl (ih_hid (clM _) rfl (ih_hid (clC _) rfl (ih_hid (clK _) rfl rfl))) ?_
        rw [wi]
        have := ih (i + 1) (by omega) (by omega)
        rw [hd, List.filter_cons_of_neg (by rw [hp]; simp)]
        exact this
    · exact fin (q + 2) i (by omega)

def fitAll (x : P2) : Prop := shortK (keysE x.1.es) = true ∧ x.1.es.length ≤ 1099511627776
noncomputable def g29 : Spec := knownM fitAll eGet hGet fun x => allR x.1 x.2
theorem at29 (s : StD) (p : Str) (h : fitAll (s, p)) : g29 [.ptr 0 0, .str p] (stH s) = some (allR s p) := knownM_at get_inj (d := (s, p)) h
theorem k29 : SpecB Tryd.prog 29 g29 := knownM_spec fun x hx => by
  obtain ⟨⟨m, c, es, ow⟩, p⟩ := x
  obtain ⟨h1, h2⟩ := hx
  refine ⟨_, F29_spec spC_ok (es.length + 2), ?_⟩
  simp only [eGet, hGet] at h1 h2 ⊢
  refine spec_of rfl (bh_row rfl (bh_hid (clM es) rfl (bh_hid (clC ow) rfl rfl))) ?_
  have hperm := isort_perm (keysE es)
  have hlen : (isort (keysE es)).length = es.length := by rw [hperm.length_eq]; simp [keysE]
  have hcond : (shortK (keysE es) && Nat.ble (keysE es).length 1099511627776) = true := by
    rw [h1, Bool.true_and, Nat.ble_eq]; simpa [keysE] using h2
  have hS : sortedSpec 55 [.fn 55 [.ptr 0 0]] [.row [.mapv 1], mapO es] = match isort (keysE es) with
      | [] => some (.snil, [.row [.mapv 1], mapO es])
      | s => some (.sl 2 0 (keysE es).length 1 none, [.row [.mapv 1], mapO es, .row (s.map .str)]) := by
    simp only [sortedSpec, mapO, strKeysA_ents, Nat.beq_refl, hcond]
    split <;> rename_i e <;> simp only [e] <;> rfl
  cases hi : isort (keysE es) with
  | nil =>
    have hes : es = [] := by rw [hi] at hlen; exact List.length_eq_zero_iff.1 hlen.symm
    rw [hi] at hS
    refine ev_callN2 rfl (ih_row rfl (ih_hid (clM es) rfl rfl)) hS rfl (bh_row rfl (bh_hid (clM es) rfl rfl)) ?_
    refine ev_call rfl (ih_row rfl (ih_hid (clM es) rfl rfl)) hS rfl (bh_row rfl (bh_hid (clM es) rfl rfl)) ?_
    refine ev_goto rfl (ih_hid (clM es) rfl (ih_hid (clC ow) rfl rfl)) ?_
    refine next_succ rfl ?_
    have e : allR ⟨m, c, es, ow⟩ p = (.snil, stH ⟨m, c, es, ow⟩) := by
      subst hes; rfl
    rw [e]
    exact ev_ret rfl (ih_row rfl (ih_hid (clM _) rfl (ih_hid (clC _) rfl rfl)))
  | cons k0 kr =>
    rw [hi] at hS hlen
    have hks : ∀ k ∈ k0 :: kr, k ∈ keysE es := fun k hk => by rw [← hi] at hk; exact hperm.mem_iff.1 hk
    have hkl : (keysE es).length = (k0 :: kr).length := by rw [hlen]; simp [keysE]
    rw [hkl] at hS
    refine ev_call rfl (ih_row rfl (ih_hid (clM es) rfl rfl)) hS rfl (bh_row rfl (bh_hid (clM es) rfl (bh_hid (clK (k0 :: kr)) rfl rfl))) ?_
    refine ev_ask rfl rfl rfl ?_
    refine ev_goto rfl (ih_hid (clM es) rfl (ih_hid (clC ow) rfl (ih_hid (clK (k0 :: kr)) rfl rfl))) ?_
    have := all_go1 (p := p) (m := m) (c := c) (ow := ow) (ks := k0 :: kr) hks (by rw [hlen]; exact h2) es.length 0 (by rw [hlen]; omega) (by omega)
    rw [List.drop_zero] at this
    refine this.trans ?_
    have e : ((k0 :: kr).filter (pre p)).map (objE es) = objs es p := by simp only [objs, hi]
    rw [e]
    unfold allR
    rfl
theorem spD_ok' : True := trivial
end Go.Proofs.BoatV
