/- StoreLists: the plain law: it answers true. Printed by gen16.py. -/
import Derived.Test.YthfdbllpofiabaaDoorS15
namespace Go.Proofs.BoatV
open Go
set_option linter.unusedVariables false
theorem listR_nil (c : Int) (es : List EntS) (p : Str) (h : objs es p = []) : listR ⟨200, c, es, []⟩ p = (.tup [.snil, .int .i64 0], stH ⟨200, inc c, es, []⟩) := by
  simp [listR, called, h]
theorem listR_some (c : Int) (es : List EntS) (p : Str) (h : objs es p ≠ []) : listR ⟨200, c, es, []⟩ p = (.tup [.sl 3 0 (objs es p).length 3 none, .int .i64 0], [stR 200 (inc c), mapO es, chO [], .row (rowO ((objs es p).map clrE))]) := by
  simp [listR, called, h, stH]
theorem list_nil {es : List EntS} {p : Str} (c : Int) (hf : fitAll ((⟨200, c, es, []⟩ : StD), p)) (h : objs es p = []) : spG.sp 16 [.ptr 0 0, .str p] (stH ⟨200, c, es, []⟩) = some (.tup [.snil, .int .i64 0], stH ⟨200, inc c, es, []⟩) := by
  have := at16 ⟨200, c, es, []⟩ p (fit1_nil _ _ _) hf
  rw [listR_nil c es p h] at this
  exact this
theorem list_some {es : List EntS} {p : Str} (c : Int) (hf : fitAll ((⟨200, c, es, []⟩ : StD), p)) (h : objs es p ≠ []) : spG.sp 16 [.ptr 0 0, .str p] (stH ⟨200, c, es, []⟩) = some (.tup [.sl 3 0 (objs es p).length 3 none, .int .i64 0], [stR 200 (inc c), mapO es, chO [], .row (rowO ((objs es p).map clrE))]) := by
  have := at16 ⟨200, c, es, []⟩ p (fit1_nil _ _ _) hf
  rw [listR_some c es p h] at this
  exact this
abbrev fit0 (es : List EntS) : Prop := ∀ (c : Int) (p : Str), fitAll ((⟨200, c, es, []⟩ : StD), p)

set_option maxHeartbeats 1000000 in
theorem end2 {es : List EntS} (hf : fit0 es) (hz : objs es [122] = []) (c : Int) (q : Nat) : F4.next spG (q + 1) 2 [.int .i64 0, .int .i64 0, .int .i64 200, .int .i64 c] [mapO es, chO []] = some (.bool true, []) := by
  have A := list_nil c (hf c [122]) hz
  refine next_succ rfl ?_
  refine ev_callN2 rfl (ih_row rfl (ih_hid (clM _) rfl (ih_hid (clC _) rfl rfl))) A rfl (bh_row rfl (bh_hid (clM _) rfl (bh_hid (clC _) rfl rfl))) ?_
  refine ev_call rfl (ih_row rfl (ih_hid (clM _) rfl (ih_hid (clC _) rfl rfl))) A rfl (bh_row rfl (bh_hid (clM _) rfl (bh_hid (clC _) rfl rfl))) ?_
  simp only [List.cons_append, List.nil_append]
  refine ev_yes rfl (op_eql (by simp)) ?_
  refine ev_yes rfl (op_eql (by simp)) ?_
  refine ev_yes rfl (op_eql (by simp)) ?_
  exact ev_ret rfl rfl

set_option maxHeartbeats 1000000 in
theorem end4 {es O : List EntS} (hf : fit0 es) (hz : objs es [122] = []) (hs : (O.map (·.1)).Pairwise (· < ·)) (hc : ∀ e ∈ O, e.2.1 = []) (hl : O.length ≤ 60) (c : Int) : ∀ (q i : Nat), O.length - i ≤ q → 1 ≤ i → i ≤ O.length →
    F4.next spG (q + 1) 4 [.sl 0 0 O.length 3 none, .int .i64 0, .int .i64 (O.length : Int), .int .i64 (i : Int), .int .i64 200, .int .i64 c] [.row (rowO O), mapO es, chO []] = some (.bool true, []) := by
  have fin : ∀ (q i : Nat), i = O.length → F4.next spG (q + 1) 4 [.sl 0 0 O.length 3 none, .int .i64 0, .int .i64 (O.length : Int), .int .i64 (i : Int), .int .i64 200, .int .i64 c] [.row (rowO O), mapO es, chO []] = some (.bool true, []) := by
    intro q i hi
    have A := list_nil c (hf c [122]) hz
    refine next_succ rfl ?_
    refine ev_ask rfl rfl rfl ?_
    refine ev_no rfl (op_lss (by simp; omega)) ?_
    simp only [List.cons_append, List.nil_append]
    refine ev_callN2 rfl (ih_row rfl (ih_hid (clM _) rfl (ih_hid (clC _) rfl rfl))) A rfl (bh_row rfl (bh_hid (clM _) rfl (bh_hid (clC _) rfl rfl))) ?_
    refine ev_call rfl (ih_row rfl (ih_hid (clM _) rfl (ih_hid (clC _) rfl rfl))) A rfl (bh_row rfl (bh_hid (clM _) rfl (bh_hid (clC _) rfl rfl))) ?_
    simp only [List.cons_append, List.nil_append]
    refine ev_yes rfl (op_eql (by simp)) ?_
    refine ev_yes rfl (op_eql (by simp)) ?_
    refine ev_yes rfl (op_eql (by simp)) ?_
    exact ev_ret rfl rfl
  intro q
  induction q with
  | zero => intro i h1 h2 h3; exact fin 0 i (by omega)
  | succ q ih =>
    intro i h1 h2 h3
    rcases Nat.lt_or_ge i O.length with hi | hi
    · obtain ⟨i, rfl⟩ : ∃ j, i = j + 1 := ⟨i - 1, by omega⟩
      have ga : O[i]? = some O[i] := List.getElem?_eq_getElem (by omega)
      have gb : O[i + 1]? = some O[i + 1] := List.getElem?_eq_getElem hi
      have hlt : O[i].1 < O[i + 1].1 := by
        have := List.pairwise_iff_getElem.1 hs i (i + 1) (by simp; omega) (by simpa using hi) (by omega)
        simpa using this
      have hcl : O[i + 1].2.1 = [] := hc _ (List.getElem_mem _)
      generalize O[i] = x at ga hlt
      generalize O[i + 1] = y at gb hlt hcl
      have w1 : opK (.bin .sub) [.int .i64 ((i + 1 : Nat) : Int), .int .i64 1] = some (.int .i64 (i : Int)) := by
        have : IntKind.i64.wrap (((i + 1 : Nat) : Int) - 1) = (i : Int) := by rw [IntKind.wrap_i64]; omega
        simp only [opK, intK, if_true, this]
      refine next_succ rfl ?_
      refine ev_ask rfl rfl rfl ?_
      refine ev_yes rfl (op_lss (by simp; omega)) ?_
      refine ev_ask rfl w1 rfl ?_
      refine ev_ask rfl (op_idxO 1 O.length i (by omega)) rfl ?_
      refine ev_ask rfl rfl rfl ?_
      simp only [List.cons_append, List.nil_append]
      refine ev_phop rfl (ih_hid (clR O) rfl rfl) (op_loadO O i 0 x (.str x.1) ga (by omega) rfl) rfl ?_
      refine ev_ask rfl (op_idxO 1 O.length (i + 1) hi) rfl ?_
      refine ev_ask rfl rfl rfl ?_
      simp only [List.cons_append, List.nil_append]
      refine ev_phop rfl (ih_hid (clR O) rfl rfl) (op_loadO O (i + 1) 0 y (.str y.1) gb (by omega) rfl) rfl ?_
      refine ev_no rfl (op_geqS hlt) ?_
      refine ev_ask rfl rfl rfl ?_
      simp only [List.cons_append, List.nil_append]
      refine ev_phop rfl (ih_hid (clR O) rfl rfl) (op_loadO O (i + 1) 1 y (.str y.2.1) gb (by omega) rfl) rfl ?_
      refine ev_no rfl (op_neqS (by simp [hcl])) ?_
      refine ev_ask rfl rfl rfl ?_
      refine ev_goto rfl (ih_hid (clR _) rfl (ih_hid (clM _) rfl (ih_hid (clC _) rfl rfl))) ?_
      rw [i64_inc (i + 1) (by omega)]
      exact ih (i + 1 + 1) (by omega) (by omega) (by omega)
    · exact fin (q + 1) i (by omega)

set_option maxHeartbeats 2000000 in
theorem cnt1 {hs : List Bool} {es : List EntS} {p : Str} (hlen : hs.length = 100) (hp : p.length ≤ 2) (c : Int) (FIN : ∀ q, F4.next spG (q + 1) 2 [.int .i64 0, .int .i64 (cntP hs p 100 : Nat), .int .i64 200, .int .i64 c] [mapO es, chO []] = some (.bool true, [])) : ∀ (q j : Nat), 100 - j ≤ q → j ≤ 100 →
    F4.next spG (q + 2) 1 [.str p, .int .i64 0, .int .i64 (cntP hs p j : Nat), .int .i64 (j : Int), .int .i64 200, .int .i64 c] [hasR hs, mapO es, chO []] = some (.bool true, []) := by
  have fin : ∀ (q j : Nat), j = 100 → F4.next spG (q + 2) 1 [.str p, .int .i64 0, .int .i64 (cntP hs p j : Nat), .int .i64 (j : Int), .int .i64 200, .int .i64 c] [hasR hs, mapO es, chO []] = some (.bool true, []) := by
    intro q j hj
    subst hj
    refine next_succ rfl ?_
    refine ev_no rfl (op_lss (by simp)) ?_
    refine ev_goto rfl (ih_hid (clM _) rfl (ih_hid (clC _) rfl rfl)) ?_
    exact FIN q
  intro q
  induction q with
  | zero => intro j h1 h2; exact fin 0 j (by omega)
  | succ q ih =>
    intro j h1 h2
    rcases Nat.lt_or_ge j 100 with hj | hj
    · have hb : hs[j]? = some hs[j] := List.getElem?_eq_getElem (by omega)
      have hgd : hs.getD j false = hs[j] := by rw [List.getD_eq_getElem?_getD, hb]; rfl
      generalize hs[j] = b at hb hgd
      have hcl := cntP_le hs p j
      have hnext := ih (j + 1) (by omega) (by omega)
      rw [cntP_succ] at hnext
      have hkey : keyN 107 j = 107 :: decN j := rfl
      unfold wantB at hnext
      rw [hgd, hkey] at hnext
      refine next_succ rfl ?_
      refine ev_yes rfl (op_lss (by simp; omega)) ?_
      refine ev_pcall rfl rfl (at12 j (by omega)) rfl ?_
      refine ev_ask rfl (op_cat1 107 (decN j) (decN_len _)) rfl ?_
      refine ev_ask rfl (op_idxH 1 j hj) rfl ?_
      simp only [List.cons_append, List.nil_append]
      refine ev_phop rfl (ih_hid (clH hs) rfl rfl) (op_loadH hs j b hb) rfl ?_
      simp only [List.cons_append, List.nil_append]
      cases b with
      | true =>
        refine ev_yes rfl rfl ?_
        refine ev_ask rfl rfl rfl ?_
        refine ev_ask rfl rfl rfl ?_
        simp only [List.cons_append, List.nil_append]
        by_cases hge : p.length ≤ (107 :: decN j).length
        · refine ev_yes rfl (op_geq (by have h := hge; simp at h ⊢; omega)) ?_
          refine ev_ask rfl (op_take (107 :: decN j) p.length hge) rfl ?_
          simp only [List.cons_append, List.nil_append]
          by_cases hpr : List.take p.length (107 :: decN j) = p
          · have e : (true && pre p (107 :: decN j)) = true := by simp only [pre, Bool.true_and, hge, hpr, decide_true, beq_self_eq_true]
            rw [e] at hnext
            refine ev_yes rfl (op_eqlS (beq_iff_eq.2 hpr)) ?_
            refine ev_ask rfl rfl rfl ?_
            refine ev_ask rfl rfl rfl ?_
            refine ev_goto rfl (ih_hid (clH _) rfl (ih_hid (clM _) rfl (ih_hid (clC _) rfl rfl))) ?_
            rw [i64_inc j (by omega), i64_inc (cntP hs p j) (by omega)]
            exact hnext
          · have e : (true && pre p (107 :: decN j)) = false := by simp only [pre, Bool.true_and, Bool.and_eq_false_iff]; exact .inr (beq_eq_false_iff_ne.2 hpr)
            rw [e] at hnext
            refine ev_no rfl (op_eqlS (beq_eq_false_iff_ne.2 hpr)) ?_
            refine ev_ask rfl rfl rfl ?_
            refine ev_goto rfl (ih_hid (clH _) rfl (ih_hid (clM _) rfl (ih_hid (clC _) rfl rfl))) ?_
            rw [i64_inc j (by omega)]
            exact hnext
        · have e : (true && pre p (107 :: decN j)) = false := by simp only [pre, Bool.true_and, Bool.and_eq_false_iff]; exact .inl (decide_eq_false hge)
          rw [e] at hnext
          refine ev_no rfl (op_geq (by have h := hge; simp at h ⊢; omega)) ?_
          refine ev_ask rfl rfl rfl ?_
          refine ev_goto rfl (ih_hid (clH _) rfl (ih_hid (clM _) rfl (ih_hid (clC _) rfl rfl))) ?_
          rw [i64_inc j (by omega)]
          exact hnext
      | false =>
        rw [show (false && pre p (107 :: decN j)) = false from rfl] at hnext
        refine ev_no rfl rfl ?_
        refine ev_ask rfl rfl rfl ?_
        refine ev_goto rfl (ih_hid (clH _) rfl (ih_hid (clM _) rfl (ih_hid (clC _) rfl rfl))) ?_
        rw [i64_inc j (by omega)]
        exact hnext
    · exact fin (q + 1) j (by omega)

set_option maxHeartbeats 2000000 in
theorem cnt3 {hs : List Bool} {es O : List EntS} {p : Str} (hlen : hs.length = 100) (hp : p.length ≤ 2) (c : Int) (FIN : ∀ q, F4.next spG (q + 99) 4 [.sl 0 0 O.length 3 none, .int .i64 0, .int .i64 (cntP hs p 100 : Nat), .int .i64 1, .int .i64 200, .int .i64 c] [.row (rowO O), mapO es, chO []] = some (.bool true, [])) : ∀ (q j : Nat), 100 - j ≤ q → j ≤ 100 →
    F4.next spG (q + 100) 3 [.str p, .sl 0 0 O.length 3 none, .int .i64 0, .int .i64 (cntP hs p j : Nat), .int .i64 (j : Int), .int .i64 200, .int .i64 c] [hasR hs, .row (rowO O), mapO es, chO []] = some (.bool true, []) := by
  have fin : ∀ (q j : Nat), j = 100 → F4.next spG (q + 100) 3 [.str p, .sl 0 0 O.length 3 none, .int .i64 0, .int .i64 (cntP hs p j : Nat), .int .i64 (j : Int), .int .i64 200, .int .i64 c] [hasR hs, .row (rowO O), mapO es, chO []] = some (.bool true, []) := by
    intro q j hj
    subst hj
    refine next_succ rfl ?_
    refine ev_no rfl (op_lss (by simp)) ?_
    refine ev_goto rfl (ih_hid (clR _) rfl (ih_hid (clM _) rfl (ih_hid (clC _) rfl rfl))) ?_
    exact FIN q
  intro q
  induction q with
  | zero => intro j h1 h2; exact fin 0 j (by omega)
  | succ q ih =>
    intro j h1 h2
    rcases Nat.lt_or_ge j 100 with hj | hj
    · have hb : hs[j]? = some hs[j] := List.getElem?_eq_getElem (by omega)
      have hgd : hs.getD j false = hs[j] := by rw [List.getD_eq_getElem?_getD, hb]; rfl
      generalize hs[j] = b at hb hgd
      have hcl := cntP_le hs p j
      have hnext := ih (j + 1) (by omega) (by omega)
      rw [cntP_succ] at hnext
      have hkey : keyN 107 j = 107 :: decN j := rfl
      unfold wantB at hnext
      rw [hgd, hkey] at hnext
      refine next_succ rfl ?_
      refine ev_yes rfl (op_lss (by simp; omega)) ?_
      refine ev_pcall rfl rfl (at12 j (by omega)) rfl ?_
      refine ev_ask rfl (op_cat1 107 (decN j) (decN_len _)) rfl ?_
      refine ev_ask rfl (op_idxH 1 j hj) rfl ?_
      simp only [List.cons_append, List.nil_append]
      refine ev_phop rfl (ih_hid (clH hs) rfl rfl) (op_loadH hs j b hb) rfl ?_
      simp only [List.cons_append, List.nil_append]
      cases b with
      | true =>
        refine ev_yes rfl rfl ?_
        refine ev_ask rfl rfl rfl ?_
        refine ev_ask rfl rfl rfl ?_
        simp only [List.cons_append, List.nil_append]
        by_cases hge : p.length ≤ (107 :: decN j).length
        · refine ev_yes rfl (op_geq (by have h := hge; simp at h ⊢; omega)) ?_
          refine ev_ask rfl (op_take (107 :: decN j) p.length hge) rfl ?_
          simp only [List.cons_append, List.nil_append]
          by_cases hpr : List.take p.length (107 :: decN j) = p
          · have e : (true && pre p (107 :: decN j)) = true := by simp only [pre, Bool.true_and, hge, hpr, decide_true, beq_self_eq_true]
            rw [e] at hnext
            refine ev_yes rfl (op_eqlS (beq_iff_eq.2 hpr)) ?_
            refine ev_ask rfl rfl rfl ?_
            refine ev_ask rfl rfl rfl ?_
            refine ev_goto rfl (ih_hid (clH _) rfl (ih_hid (clR _) rfl (ih_hid (clM _) rfl (ih_hid (clC _) rfl rfl)))) ?_
            rw [i64_inc j (by omega), i64_inc (cntP hs p j) (by omega)]
            exact hnext
          · have e : (true && pre p (107 :: decN j)) = false := by simp only [pre, Bool.true_and, Bool.and_eq_false_iff]; exact .inr (beq_eq_false_iff_ne.2 hpr)
            rw [e] at hnext
            refine ev_no rfl (op_eqlS (beq_eq_false_iff_ne.2 hpr)) ?_
            refine ev_ask rfl rfl rfl ?_
            refine ev_goto rfl (ih_hid (clH _) rfl (ih_hid (clR _) rfl (ih_hid (clM _) rfl (ih_hid (clC _) rfl rfl)))) ?_
            rw [i64_inc j (by omega)]
            exact hnext
        · have e : (true && pre p (107 :: decN j)) = false := by simp only [pre, Bool.true_and, Bool.and_eq_false_iff]; exact .inl (decide_eq_false hge)
          rw [e] at hnext
          refine ev_no rfl (op_geq (by have h := hge; simp at h ⊢; omega)) ?_
          refine ev_ask rfl rfl rfl ?_
          refine ev_goto rfl (ih_hid (clH _) rfl (ih_hid (clR _) rfl (ih_hid (clM _) rfl (ih_hid (clC _) rfl rfl)))) ?_
          rw [i64_inc j (by omega)]
          exact hnext
      | false =>
        rw [show (false && pre p (107 :: decN j)) = false from rfl] at hnext
        refine ev_no rfl rfl ?_
        refine ev_ask rfl rfl rfl ?_
        refine ev_goto rfl (ih_hid (clH _) rfl (ih_hid (clR _) rfl (ih_hid (clM _) rfl (ih_hid (clC _) rfl rfl)))) ?_
        rw [i64_inc j (by omega)]
        exact hnext
    · exact fin (q + 1) j (by omega)

theorem after1 {hs : List Bool} {es : List EntS} (hI : InvL hs es) (hl : es.length ≤ 60) (p : Str) (hp : p.length ≤ 2) (h0 : objs es p = []) (c : Int) (q : Nat) :
    F4.next spG (q + 299) 1 [.str p, .int .i64 0, .int .i64 0, .int .i64 0, .int .i64 200, .int .i64 c] [hasR hs, mapO es, chO []] = some (.bool true, []) := by
  have hc : cntP hs p 100 = 0 := by rw [← hI.count p, h0]; rfl
  have := cnt1 (es := es) (p := p) hI.len hp c (fun q => by rw [hc]; exact end2 (fun c p => hI.fit hl 200 c p) hI.noZ c q) (q + 297) 0 (by omega) (by omega)
  exact this
theorem after3 {hs : List Bool} {es : List EntS} (hI : InvL hs es) (hl : es.length ≤ 60) (p : Str) (hp : p.length ≤ 2) (h0 : objs es p ≠ []) (c : Int) (q : Nat) :
    F4.next spG (q + 299) 3 [.str p, .sl 0 0 (objs es p).length 3 none, .int .i64 0, .int .i64 0, .int .i64 0, .int .i64 200, .int .i64 c] [hasR hs, .row (rowO ((objs es p).map clrE)), mapO es, chO []] = some (.bool true, []) := by
  have hc : cntP hs p 100 = ((objs es p).map clrE).length := by rw [← hI.count p]; simp
  have hle := objs_le es p
  have hlen : (objs es p).length = ((objs es p).map clrE).length := by simp
  have hs1 : (((objs es p).map clrE).map (·.1)).Pairwise (· < ·) := by
    have := hI.sorted p
    rw [List.map_map]
    exact this
  have hs2 : ∀ e ∈ (objs es p).map clrE, e.2.1 = [] := fun e he => by
    obtain ⟨x, _, rfl⟩ := List.mem_map.1 he
    rfl
  have hne : 1 ≤ ((objs es p).map clrE).length := by
    rw [← hlen]
    exact List.length_pos_iff.2 h0
  rw [hlen]
  generalize (objs es p).map clrE = O at hc hlen hs1 hs2 hne
  have := cnt3 (es := es) (O := O) (p := p) hI.len hp c (fun q => by rw [hc]; exact end4 (fun c p => hI.fit hl 200 c p) hI.noZ hs1 hs2 (by omega) c (q + 98) 1 (by omega) (by omega) hne) (q + 199) 0 (by omega) (by omega)
  exact this

set_option maxHeartbeats 4000000 in
theorem lists_go (zs : List Int) (pr : Str) : ∀ (q i : Nat) (c : Int) (hs : List Bool) (es : List EntS), zs.length - i ≤ q → i ≤ zs.length → i ≤ 60 → es.length ≤ i → InvL hs es →
    F4.next spG (q + 300) 0 [.im (zs.map fun z => [.int .i64 z]) 1, .str pr, .int .i64 (i : Int), .int .i64 200, .int .i64 c] [hasR hs, mapO es, chO []] = some (.bool true, []) := by
  have fin : ∀ (q i : Nat) (c : Int) (hs : List Bool) (es : List EntS), i = zs.length → i ≤ 60 → es.length ≤ i → InvL hs es → F4.next spG (q + 300) 0 [.im (zs.map fun z => [.int .i64 z]) 1, .str pr, .int .i64 (i : Int), .int .i64 200, .int .i64 c] [hasR hs, mapO es, chO []] = some (.bool true, []) := by
    intro q i c hs es hi h60 hes hI
    refine next_succ rfl ?_
    refine ev_ask rfl rfl rfl ?_
    refine ev_no rfl (op_lss (by simp; omega)) ?_
    simp only [List.cons_append, List.nil_append]
    refine ev_ask rfl rfl rfl ?_
    refine ev_ask rfl (op_andC _ 1) rfl ?_
    refine ev_ite rfl rfl (fun hb => ?_) (fun hb => ?_)
    · clear hb
      by_cases h0 : objs es [107, 49] = []
      · have A := list_nil c (hI.fit (by omega) 200 c [107, 49]) h0
        refine ev_callN2 rfl (ih_row rfl (ih_hid (clM _) rfl (ih_hid (clC _) rfl rfl))) A rfl (bh_row rfl (bh_hid (clM _) rfl (bh_hid (clC _) rfl rfl))) ?_
        refine ev_call rfl (ih_row rfl (ih_hid (clM _) rfl (ih_hid (clC _) rfl rfl))) A rfl (bh_row rfl (bh_hid (clM _) rfl (bh_hid (clC _) rfl rfl))) ?_
        simp only [List.cons_append, List.nil_append]
        refine ev_goto rfl (ih_hid (clH _) rfl (ih_hid (clM _) rfl (ih_hid (clC _) rfl rfl))) ?_
        exact after1 hI (by omega) [107, 49] (by simp) h0 _ _
      · have A := list_some c (hI.fit (by omega) 200 c [107, 49]) h0
        refine ev_call rfl (ih_row rfl (ih_hid (clM _) rfl (ih_hid (clC _) rfl rfl))) A rfl (bh_row rfl (bh_hid (clM _) rfl (bh_hid (clC _) rfl (bh_hid (clR _) rfl rfl)))) ?_
        simp only [List.cons_append, List.nil_append]
        refine ev_goto rfl (ih_hid (clH _) rfl (ih_hid (clR _) rfl (ih_hid (clM _) rfl (ih_hid (clC _) rfl rfl)))) ?_
        exact after3 hI (by omega) [107, 49] (by simp) h0 _ _
    · clear hb
      by_cases h0 : objs es [107] = []
      · have A := list_nil c (hI.fit (by omega) 200 c [107]) h0
        refine ev_callN2 rfl (ih_row rfl (ih_hid (clM _) rfl (ih_hid (clC _) rfl rfl))) A rfl (bh_row rfl (bh_hid (clM _) rfl (bh_hid (clC _) rfl rfl))) ?_
        refine ev_call rfl (ih_row rfl (ih_hid (clM _) rfl (ih_hid (clC _) rfl rfl))) A rfl (bh_row rfl (bh_hid (clM _) rfl (bh_hid (clC _) rfl rfl))) ?_
        simp only [List.cons_append, List.nil_append]
        refine ev_goto rfl (ih_hid (clH _) rfl (ih_hid (clM _) rfl (ih_hid (clC _) rfl rfl))) ?_
        exact after1 hI (by omega) [107] (by simp) h0 _ _
      · have A := list_some c (hI.fit (by omega) 200 c [107]) h0
        refine ev_call rfl (ih_row rfl (ih_hid (clM _) rfl (ih_hid (clC _) rfl rfl))) A rfl (bh_row rfl (bh_hid (clM _) rfl (bh_hid (clC _) rfl (bh_hid (clR _) rfl rfl)))) ?_
        simp only [List.cons_append, List.nil_append]
        refine ev_goto rfl (ih_hid (clH _) rfl (ih_hid (clR _) rfl (ih_hid (clM _) rfl (ih_hid (clC _) rfl rfl)))) ?_
        exact after3 hI (by omega) [107] (by simp) h0 _ _
  intro q
  induction q with
  | zero => intro i c hs es h1 h2 h3 h4 h5; exact fin 0 i c hs es (by omega) h3 h4 h5
  | succ q ih =>
    intro i c hs es h1 h2 h60 hes hI
    rcases Nat.lt_or_ge i zs.length with hi | hi
    · refine next_succ rfl ?_
      refine ev_ask rfl rfl rfl ?_
      refine ev_yes rfl (op_lss (by simp; omega)) ?_
      by_cases hlt : i < 60
      · refine ev_yes rfl (op_lss (by simp; omega)) ?_
        have hg : (zs.map fun z => [AV.int .i64 z])[i]? = some [.int .i64 zs[i]] := by simp [hi]
        generalize zs[i] = z at hg
        refine ev_ask rfl (op_idx hg rfl) rfl ?_
        refine ev_ask rfl (op_cu64 z) rfl ?_
        have hw0 : 0 ≤ IntKind.u64.wrap z ∧ IntKind.u64.wrap z < 18446744073709551616 := by rw [IntKind.wrap_u64]; omega
        obtain ⟨x, hx⟩ := Int.eq_ofNat_of_zero_le hw0.1
        have hrem : opK (.bin .rem) [.int .u64 (IntKind.u64.wrap z), .int .u64 100] = some (.int .u64 ((x % 100 : Nat) : Int)) := by
          rw [hx]
          have h1 : ((x : Int).tmod (100 : Int)) = ((x % 100 : Nat) : Int) := by rw [Int.tmod_eq_emod_of_nonneg (by omega)]; rfl
          simp [opK, intK, h1]
        refine ev_ask rfl hrem rfl ?_
        have hk : x % 100 < 100 := Nat.mod_lt _ (by omega)
        generalize x % 100 = k at hk
        have hki : IntKind.i64.wrap (k : Int) = k := by rw [IntKind.wrap_i64]; omega
        refine ev_ask rfl (v := .int .i64 (k : Int)) (by simp [opK, hki]) rfl ?_
        refine ev_pcall rfl rfl (at12 k (by omega)) rfl ?_
        refine ev_ask rfl (op_cat1 107 (decN k) (decN_len _)) rfl ?_
        simp only [List.cons_append, List.nil_append]
        have hkl : k < hs.length := by rw [hI.len]; exact hk
        have hb : hs[k]? = some hs[k] := List.getElem?_eq_getElem hkl
        generalize hs[k] = b at hb
        have hin := hI.at hb
        have hp := at13 ⟨200, c, es, []⟩ (keyN 107 k) [100] (i : Int) (fit1_nil _ _ _)
        have wi := i64_inc i (by omega)
        cases b with
        | false =>
          rw [put_new (k := keyN 107 k) (key_dec (c := 107) (by decide) k) 200 c [100] _ i (by simp) hin (by omega)] at hp
          refine ev_call rfl (ih_row rfl (ih_hid (clM _) rfl (ih_hid (clC _) rfl rfl))) (f := 13) (sp := spG) hp rfl (bh_row rfl (bh_hid (clM _) rfl (bh_hid (clC _) rfl rfl))) ?_
          simp only [List.cons_append, List.nil_append]
          refine ev_yes rfl (op_eql (by simp)) ?_
          refine ev_ask rfl (op_idxH 1 k hk) rfl ?_
          simp only [List.cons_append, List.nil_append]
          refine ev_phop rfl (ih_hid (clH hs) rfl rfl) (op_loadH hs k _ hb) rfl ?_
          refine ev_no rfl rfl ?_
          refine ev_hop rfl (ih_hid (clH hs) rfl rfl) (op_storH hs k true (by rw [hI.len]; exact hk)) rfl (bh_hid (clH _) rfl rfl) ?_
          simp only [List.cons_append, List.nil_append]
          refine ev_ask rfl rfl rfl ?_
          refine ev_goto rfl (ih_hid (clH _) rfl (ih_hid (clM _) rfl (ih_hid (clC _) rfl rfl))) ?_
          rw [wi]
          exact ih (i + 1) (inc c) (hs.set k true) (es ++ [(keyN 107 k, [100], (i : Int))]) (by omega) (by omega) (by omega) (by simp; omega) (hI.step hb _ _)
        | true =>
          rw [put_old (k := keyN 107 k) (key_dec (c := 107) (by decide) k) 200 c [100] _ i (by simp) hin] at hp
          refine ev_call rfl (ih_row rfl (ih_hid (clM _) rfl (ih_hid (clC _) rfl rfl))) (f := 13) (sp := spG) hp rfl (bh_row rfl (bh_hid (clM _) rfl (bh_hid (clC _) rfl rfl))) ?_
          simp only [List.cons_append, List.nil_append]
          refine ev_no rfl (op_eql (by simp)) ?_
          refine ev_ask rfl (op_idxH 1 k hk) rfl ?_
          simp only [List.cons_append, List.nil_append]
          refine ev_phop rfl (ih_hid (clH hs) rfl rfl) (op_loadH hs k _ hb) rfl ?_
          refine ev_no rfl rfl ?_
          refine ev_hop rfl (ih_hid (clH hs) rfl rfl) (op_storH hs k true (by rw [hI.len]; exact hk)) rfl (bh_hid (clH _) rfl rfl) ?_
          simp only [List.cons_append, List.nil_append]
          rw [set_same hb]
          refine ev_ask rfl rfl rfl ?_
          refine ev_goto rfl (ih_hid (clH _) rfl (ih_hid (clM _) rfl (ih_hid (clC _) rfl rfl))) ?_
          rw [wi]
          exact ih (i + 1) (inc c) hs es (by omega) (by omega) (by omega) (by omega) hI
      · refine ev_no rfl (op_lss (by simp; omega)) ?_
        simp only [List.cons_append, List.nil_append]
        refine ev_ask rfl rfl rfl ?_
        refine ev_ask rfl (op_andC _ 1) rfl ?_
        refine ev_ite rfl rfl (fun hb => ?_) (fun hb => ?_)
        · clear hb
          by_cases h0 : objs es [107, 49] = []
          · have A := list_nil c (hI.fit (by omega) 200 c [107, 49]) h0
            refine ev_callN2 rfl (ih_row rfl (ih_hid (clM _) rfl (ih_hid (clC _) rfl rfl))) A rfl (bh_row rfl (bh_hid (clM _) rfl (bh_hid (clC _) rfl rfl))) ?_
            refine ev_call rfl (ih_row rfl (ih_hid (clM _) rfl (ih_hid (clC _) rfl rfl))) A rfl (bh_row rfl (bh_hid (clM _) rfl (bh_hid (clC _) rfl rfl))) ?_
            simp only [List.cons_append, List.nil_append]
            refine ev_goto rfl (ih_hid (clH _) rfl (ih_hid (clM _) rfl (ih_hid (clC _) rfl rfl))) ?_
            exact after1 hI (by omega) [107, 49] (by simp) h0 _ _
          · have A := list_some c (hI.fit (by omega) 200 c [107, 49]) h0
            refine ev_call rfl (ih_row rfl (ih_hid (clM _) rfl (ih_hid (clC _) rfl rfl))) A rfl (bh_row rfl (bh_hid (clM _) rfl (bh_hid (clC _) rfl (bh_hid (clR _) rfl rfl)))) ?_
            simp only [List.cons_append, List.nil_append]
            refine ev_goto rfl (ih_hid (clH _) rfl (ih_hid (clR _) rfl (ih_hid (clM _) rfl (ih_hid (clC _) rfl rfl)))) ?_
            exact after3 hI (by omega) [107, 49] (by simp) h0 _ _
        · clear hb
          by_cases h0 : objs es [107] = []
          · have A := list_nil c (hI.fit (by omega) 200 c [107]) h0
            refine ev_callN2 rfl (ih_row rfl (ih_hid (clM _) rfl (ih_hid (clC _) rfl rfl))) A rfl (bh_row rfl (bh_hid (clM _) rfl (bh_hid (clC _) rfl rfl))) ?_
            refine ev_call rfl (ih_row rfl (ih_hid (clM _) rfl (ih_hid (clC _) rfl rfl))) A rfl (bh_row rfl (bh_hid (clM _) rfl (bh_hid (clC _) rfl rfl))) ?_
            simp only [List.cons_append, List.nil_append]
            refine ev_goto rfl (ih_hid (clH _) rfl (ih_hid (clM _) rfl (ih_hid (clC _) rfl rfl))) ?_
            exact after1 hI (by omega) [107] (by simp) h0 _ _
          · have A := list_some c (hI.fit (by omega) 200 c [107]) h0
            refine ev_call rfl (ih_row rfl (ih_hid (clM _) rfl (ih_hid (clC _) rfl rfl))) A rfl (bh_row rfl (bh_hid (clM _) rfl (bh_hid (clC _) rfl (bh_hid (clR _) rfl rfl)))) ?_
            simp only [List.cons_append, List.nil_append]
            refine ev_goto rfl (ih_hid (clH _) rfl (ih_hid (clR _) rfl (ih_hid (clM _) rfl (ih_hid (clC _) rfl rfl)))) ?_
            exact after3 hI (by omega) [107] (by simp) h0 _ _
    · exact fin (q + 1) i c hs es (by omega) h60 hes hI
set_option maxRecDepth 20000 in
theorem lists_true (zs : List Int) (pr : Str) : ∃ H, F4.spec spG (zs.length + 300) [.im (zs.map fun z => [.int .i64 z]) 1, .str pr] [] = some (.bool true, H) := by
  refine ⟨[], ?_⟩
  refine spec_of rfl rfl ?_
  refine ev_goto rfl rfl ?_
  have := lists_go zs pr zs.length 0 0 (List.replicate 100 false) [] (by omega) (by omega) (by omega) (by simp) InvL.start
  exact this
end Go.Proofs.BoatV
