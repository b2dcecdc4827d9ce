/- The contract of List. -/
import Derived.Test.YthfdbllpofiabaaDoorS13
namespace Go.Proofs.BoatV
open Go
set_option linter.unusedVariables false
def clrE (e : EntS) : EntS := (e.1, [], e.2.2)
def listR (s : StD) (p : Str) : AV × Heap :=
  if (called s).1 then (.tup [.snil, .int .i64 104], stH (called s).2)
  else if objs s.es p = [] then (.tup [.snil, .int .i64 0], stH (called s).2)
  else (.tup [.sl 3 0 (objs s.es p).length 3 none, .int .i64 0], stH (called s).2 ++ [.row (rowO ((objs s.es p).map clrE))])
theorem setAt_mid (x y z v : AV) : ∀ (a b : List AV), setAt (a ++ x :: y :: z :: b) (a.length + 1) [v] = some (a ++ x :: v :: z :: b)
  | [], b => by simp [setAt]
  | c :: a, b => by
    have ih := setAt_mid x y z v a b
    simp only [List.cons_append, List.length_cons, setAt, ih, Option.map_some]
theorem rowO_split (A B : List EntS) (e : EntS) : rowO (A ++ e :: B) = rowO A ++ .str e.1 :: .str e.2.1 :: .int .i64 e.2.2 :: rowO B := by simp [rowO, cellsO]
theorem op_storO (A B : List EntS) (e : EntS) : opH (.stor 1) [.ptr 0 (0 + A.length * 3 + 1), .str []] [.row (rowO (A ++ e :: B))] = some (.undef, [.row (rowO (A ++ clrE e :: B))]) := by
  have h := setAt_mid (.str e.1) (.str e.2.1) (.int .i64 e.2.2) (.str []) (rowO A) (rowO B)
  rw [rowO_length] at h
  rw [rowO_split, rowO_split]
  simp only [opH, AV.cells, List.length_singleton, if_true, storeAt, rowAt, List.getElem?_cons_zero, allOne, AV.one, Nat.zero_add, h, Bool.and_self, Option.map_some, List.set_cons_zero]
  rfl
theorem op_idxO (j n i : Nat) (h : i < n) : opK (.idxA 3) [.sl j 0 n 3 none, .int .i64 (i : Int)] = some (.ptr j (0 + i * 3)) := by
  have : (i : Int) < (n : Int) := by omega
  simp [opK, this]

theorem list_go {es : List EntS} {ow : List Int} {m c : Int} : ∀ (B A : List EntS) (q n : Nat), B.length ≤ q → n = A.length + B.length → n ≤ 1099511627776 →
    F16.next spD (q + 1) 1 [.sl 0 0 n 3 none, .int .i64 (n : Int), .int .i64 (A.length : Int), .int .i64 m, .int .i64 c] [mapO es, chO ow, .row (rowO (A ++ B))] =
      some (.tup [.sl 3 0 n 3 none, .int .i64 0], [stR m c, mapO es, chO ow, .row (rowO (A ++ B.map clrE))])
  | [], A, q, n, h1, h2, h3 => by
    simp only [List.length_nil, Nat.add_zero] at h2
    simp only [List.map_nil, List.append_nil]
    refine next_succ rfl ?_
    refine ev_no rfl (op_lss (by simp; omega)) ?_
    exact ev_ret rfl (ih_row rfl (ih_hid (clM _) rfl (ih_hid (clC _) rfl (ih_hid (clR _) rfl rfl))))
  | e :: B, A, 0, n, h1, h2, h3 => by simp at h1
  | e :: B, A, q + 1, n, h1, h2, h3 => by
    simp only [List.length_cons] at h1 h2
    refine next_succ rfl ?_
    refine ev_yes rfl (op_lss (by simp; omega)) ?_
    refine ev_ask rfl (op_idxO 3 n A.length (by omega)) rfl ?_
    refine ev_ask rfl rfl rfl ?_
    simp only [List.cons_append, List.nil_append]
    refine ev_hop rfl (ih_hid (clR _) rfl rfl) (op_storO A B e) rfl (bh_hid (clR _) rfl rfl) ?_
    simp only [List.cons_append, List.nil_append]
    refine ev_ask rfl rfl rfl ?_
    refine ev_goto rfl (ih_hid (clM _) rfl (ih_hid (clC _) rfl (ih_hid (clR _) rfl rfl))) ?_
    rw [i64_inc A.length (by omega)]
    have := list_go (es := es) (ow := ow) (m := m) (c := c) B (A ++ [clrE e]) q n (by omega) (by simp; omega) h3
    simpa using this

noncomputable def g16 : Spec := knownM (fun x : P2 => fit1 x.1 ∧ fitAll x) eGet hGet fun x => listR x.1 x.2
theorem at16 (s : StD) (p : Str) (h : fit1 s) (h2 : fitAll (s, p)) : g16 [.ptr 0 0, .str p] (stH s) = some (listR s p) := knownM_at get_inj (d := (s, p)) ⟨h, h2⟩
theorem objs_le (es : List EntS) (p : Str) : (objs es p).length ≤ es.length := by
  simp only [objs, List.length_map]
  refine Nat.le_trans (List.length_filter_le _ _) ?_
  rw [(isort_perm _).length_eq]
  simp [keysE]
theorem k16 : SpecB Tryd.prog 16 g16 := knownM_spec fun x hx => by
  obtain ⟨s, p⟩ := x
  obtain ⟨h1, h2⟩ := hx
  refine ⟨_, F16_spec spD_ok ((objs s.es p).length + 1), ?_⟩
  have A := at27 s h1
  refine spec_of rfl (bh_row rfl (bh_hid (clM s.es) rfl (bh_hid (clC s.owed) rfl rfl))) ?_
  have hcall := ih_row (L := nm ([.str p, .int .i64 s.most, .int .i64 s.calls]) [mapO s.es, chO s.owed]) (cs := [.hid 1 true [], .mapv 1, .chv 2, .hid 2 true []]) (r := [.hid 0 [], .hid 1 []]) rfl (ih_hid (clM s.es) rfl (ih_hid (clC s.owed) rfl rfl))
  cases hb : (called s).1 with
  | true =>
    have e : listR s p = (.tup [.snil, .int .i64 104], stH (called s).2) := by simp [listR, hb]
    rw [hb] at A
    refine ev_call rfl hcall A rfl (bh_row rfl (bh_hid (clM _) rfl (bh_hid (clC _) rfl rfl))) ?_
    refine (ev_ret rfl (ih_row rfl (ih_hid (clM _) rfl (ih_hid (clC _) rfl rfl)))).trans ?_
    simp only [e]; rfl
  | false =>
    rw [hb] at A
    have hes := called_es s
    have e : listR s p = if objs s.es p = [] then (.tup [.snil, .int .i64 0], stH (called s).2)
        else (.tup [.sl 3 0 (objs s.es p).length 3 none, .int .i64 0], stH (called s).2 ++ [.row (rowO ((objs s.es p).map clrE))]) := by simp [listR, hb]
    show _ = some (listR s p)
    rw [e]
    generalize (called s).2 = t at A hes ⊢
    have A29 := at29 t p (by unfold fitAll at h2 ⊢; simp only at h2 ⊢; rw [hes]; exact h2)
    unfold allR at A29
    rw [hes] at A29
    have hle := objs_le s.es p
    have h3 : s.es.length ≤ 1099511627776 := h2.2
    generalize objs s.es p = O at A29 hle ⊢
    refine ev_callN rfl hcall A rfl ?_
    refine ev_call rfl hcall A rfl (bh_row rfl (bh_hid (clM _) rfl (bh_hid (clC _) rfl rfl))) ?_
    simp only [List.cons_append, List.nil_append]
    by_cases h0 : O = []
    · rw [if_pos h0] at A29 ⊢
      refine ev_callN2 rfl (ih_row rfl (ih_hid (clM _) rfl (ih_hid (clC _) rfl rfl))) (f := 29) (sp := spD) A29 rfl (bh_row rfl (bh_hid (clM _) rfl (bh_hid (clC _) rfl rfl))) ?_
      refine ev_call rfl (ih_row rfl (ih_hid (clM _) rfl (ih_hid (clC _) rfl rfl))) (f := 29) (sp := spD) A29 rfl (bh_row rfl (bh_hid (clM _) rfl (bh_hid (clC _) rfl rfl))) ?_
      simp only [List.cons_append, List.nil_append]
      refine ev_goto rfl (ih_hid (clM _) rfl (ih_hid (clC _) rfl rfl)) ?_
      refine next_succ rfl ?_
      exact ev_ret rfl (ih_row rfl (ih_hid (clM _) rfl (ih_hid (clC _) rfl rfl)))
    · rw [if_neg h0] at A29 ⊢
      refine ev_call rfl (ih_row rfl (ih_hid (clM _) rfl (ih_hid (clC _) rfl rfl))) (f := 29) (sp := spD) A29 rfl (bh_row rfl (bh_hid (clM _) rfl (bh_hid (clC _) rfl (bh_hid (clR _) rfl rfl)))) ?_
      simp only [List.cons_append, List.nil_append]
      refine ev_ask rfl rfl rfl ?_
      refine ev_goto rfl (ih_hid (clM _) rfl (ih_hid (clC _) rfl (ih_hid (clR _) rfl rfl))) ?_
      have := list_go (es := t.es) (ow := t.owed) (m := t.most) (c := t.calls) O [] O.length O.length (Nat.le_refl _) (by simp) (by omega)
      exact this
noncomputable def spf3 : FuncId → Spec
  | 16 => g16
  | f => spf2 f
theorem spf3_ok (f : FuncId) : SpecB Tryd.prog f (spf3 f) := by
  unfold spf3
  split
  · exact k16
  · exact spf2_ok _
noncomputable def spG : Sps := ⟨spf3, pf2⟩
theorem spG_ok : spG.ok Tryd.prog := ⟨spf3_ok, pf2_ok⟩
end Go.Proofs.BoatV
