/- StoreActs: the plain law: it answers true. Printed by gen_r11.py. -/
import Derived.Test.YthfdbllpofiabaaDoorRD
namespace Go.Proofs.BoatV
open Go
set_option linter.unusedVariables false
theorem op_mod3 (i : Nat) : opK (.bin .rem) [.int .i64 (i : Int), .int .i64 3] = some (.int .i64 ((i % 3 : Nat) : Int)) := by
  have : (i : Int).tmod 3 = ((i % 3 : Nat) : Int) := by rw [Int.tmod_eq_emod_of_nonneg (by omega)]; rfl
  simp [opK, intK, this]
theorem op_half (i : Nat) (h : i ≤ 1000000) : opK (.bin .quo) [.int .i64 (i : Int), .int .i64 2] = some (.int .i64 ((i / 2 : Nat) : Int)) := by
  have h1 : (i : Int).tdiv 2 = ((i / 2 : Nat) : Int) := by rw [Int.tdiv_eq_ediv_of_nonneg (by omega)]; rfl
  have h2 : IntKind.i64.wrap (((i / 2 : Nat) : Int)) = ((i / 2 : Nat) : Int) := by rw [IntKind.wrap_i64]; omega
  simp only [opK, intK, if_true]
  rw [if_neg (by omega), h1, h2]
theorem copy_step {s : StD} {r : RfD} (h : Rel s r) : ∃ l cap, Rel s ⟨r.most, some (l, cap), r.owed, r.calls⟩ ∧
    spL.sp 23 [.ptr 0 0] (rfH r) = some (.ptr (rfH r).length 0, rfH r ++ [rfR ((rfH r).length + 1) r.most (some (l, cap)) r.owed r.calls, .row (rowO l)]) := by
  have A := at23 r (rel_fits h).2.2
  exact ⟨_, _, rel_cp h, A⟩
abbrev acA (zs : List ActD) : AV := .im (zs.map rowAct) 4

structure AllN (zs : List ActD) (q i : Nat) : Prop where
  h0 : ∀ (sa : StD) (ma : Int) (oa ca : Int), Rel sa ⟨ma, none, oa, ca⟩ → i ≤ 30 → F8.next spL q 0 [acA zs, .int .i64 ((i : Nat) : Int), .int .i64 sa.most, .int .i64 sa.calls, .int .i64 ma, .int .i64 oa, .int .i64 ca] [mapO sa.es, chO sa.owed] = some (.bool true, [])
  h1 : ∀ (sa : StD) (ma : Int) (osa : List EntS) (capa : Option Nat) (oa ca : Int), Rel sa ⟨ma, some (osa, capa), oa, ca⟩ → i ≤ 30 → F8.next spL q 1 [acA zs, .int .i64 ((i : Nat) : Int), .int .i64 sa.most, .int .i64 sa.calls, .int .i64 ma, .sl 0 0 osa.length 3 capa, .int .i64 oa, .int .i64 ca] [mapO sa.es, chO sa.owed, .row (rowO osa)] = some (.bool true, [])
  h2 : ∀ (sa : StD) (ma : Int) (oa ca : Int) (sb : StD) (mb : Int) (osb : List EntS) (capb : Option Nat) (ob cb : Int), Rel sa ⟨ma, none, oa, ca⟩ → Rel sb ⟨mb, some (osb, capb), ob, cb⟩ → 31 ≤ i → F8.next spL q 2 [acA zs, .int .i64 ((i : Nat) : Int), .int .i64 sa.most, .int .i64 sa.calls, .int .i64 ma, .int .i64 oa, .int .i64 ca, .int .i64 sb.most, .int .i64 sb.calls, .int .i64 mb, .sl 0 0 osb.length 3 capb, .int .i64 ob, .int .i64 cb] [mapO sa.es, chO sa.owed, mapO sb.es, chO sb.owed, .row (rowO osb)] = some (.bool true, [])
  h3 : ∀ (sa : StD) (ma : Int) (osa : List EntS) (capa : Option Nat) (oa ca : Int) (sb : StD) (mb : Int) (osb : List EntS) (capb : Option Nat) (ob cb : Int), Rel sa ⟨ma, some (osa, capa), oa, ca⟩ → Rel sb ⟨mb, some (osb, capb), ob, cb⟩ → 31 ≤ i → F8.next spL q 3 [acA zs, .int .i64 ((i : Nat) : Int), .int .i64 sa.most, .int .i64 sa.calls, .int .i64 ma, .sl 0 0 osa.length 3 capa, .int .i64 oa, .int .i64 ca, .int .i64 sb.most, .int .i64 sb.calls, .int .i64 mb, .sl 0 0 osb.length 3 capb, .int .i64 ob, .int .i64 cb] [mapO sa.es, chO sa.owed, .row (rowO osa), mapO sb.es, chO sb.owed, .row (rowO osb)] = some (.bool true, [])
  h4 : ∀ (sa : StD) (ma : Int) (oa ca : Int) (sb : StD) (mb : Int) (ob cb : Int), Rel sa ⟨ma, none, oa, ca⟩ → Rel sb ⟨mb, none, ob, cb⟩ → 31 ≤ i → F8.next spL q 4 [acA zs, .int .i64 ((i : Nat) : Int), .int .i64 sa.most, .int .i64 sa.calls, .int .i64 ma, .int .i64 oa, .int .i64 ca, .int .i64 sb.most, .int .i64 sb.calls, .int .i64 mb, .int .i64 ob, .int .i64 cb] [mapO sa.es, chO sa.owed, mapO sb.es, chO sb.owed] = some (.bool true, [])
  h5 : ∀ (sa : StD) (ma : Int) (osa : List EntS) (capa : Option Nat) (oa ca : Int) (sb : StD) (mb : Int) (ob cb : Int), Rel sa ⟨ma, some (osa, capa), oa, ca⟩ → Rel sb ⟨mb, none, ob, cb⟩ → 31 ≤ i → F8.next spL q 5 [acA zs, .int .i64 ((i : Nat) : Int), .int .i64 sa.most, .int .i64 sa.calls, .int .i64 ma, .sl 0 0 osa.length 3 capa, .int .i64 oa, .int .i64 ca, .int .i64 sb.most, .int .i64 sb.calls, .int .i64 mb, .int .i64 ob, .int .i64 cb] [mapO sa.es, chO sa.owed, .row (rowO osa), mapO sb.es, chO sb.owed] = some (.bool true, [])
set_option maxHeartbeats 8000000 in
theorem node0 (zs : List ActD) (hz : ∀ z ∈ zs, okAct z) (q i : Nat) (hile : i ≤ zs.length) (h200' : i ≤ 200) (ih : i < zs.length → i < 200 → AllN zs q (i + 1)) : ∀ (sa : StD) (ma : Int) (oa ca : Int), Rel sa ⟨ma, none, oa, ca⟩ → i ≤ 30 → F8.next spL (q + 1) 0 [acA zs, .int .i64 ((i : Nat) : Int), .int .i64 sa.most, .int .i64 sa.calls, .int .i64 ma, .int .i64 oa, .int .i64 ca] [mapO sa.es, chO sa.owed] = some (.bool true, []) := by
  intro sa ma oa ca Ra hph
  refine next_succ rfl ?_
  refine ev_ask rfl rfl rfl ?_
  rcases Nat.lt_or_ge i zs.length with hi | hi
  · refine ev_yes rfl (op_lss (by simp; omega)) ?_
    rcases Nat.lt_or_ge i 200 with h200 | h200
    · refine ev_yes rfl (op_lss (by simp; omega)) ?_
      rcases Nat.lt_or_ge i 30 with h30 | h30
      · refine ev_no rfl (op_eql (by simp; omega)) ?_
        have hlt1 : i < zs.length := by omega
        have hg1 : (zs.map rowAct)[i]? = some (rowAct zs[i]) := by simp [hlt1]
        have hz1 := hz zs[i] (List.getElem_mem hlt1)
        generalize zs[i] = z1 at hg1 hz1
        obtain ⟨kd1, ky1, da1, nn1⟩ := z1
        refine ev_ask rfl (op_idx hg1 rfl) rfl ?_
        simp only [List.cons_append, List.nil_append]
        obtain ⟨s2, r2, R2, hc2⟩ := act_cases (s := sa) (r := ⟨ma, none, oa, ca⟩) (a := ⟨kd1, ky1, da1, nn1⟩) ⟨Ra, hz1.1, hz1.2⟩
        obtain ⟨m2, sh2, o2, c2⟩ := r2
        rcases hc2 with ⟨l2, hl2, A2⟩ | ⟨hl2, hne2, A2⟩ | ⟨hl2, A2⟩
        · simp only at hl2
          subst hl2
          refine ev_call (f := 24) (sp := spL) rfl (ih_row rfl (ih_row rfl (ih_hid (by first | exact clM _ | exact clC _ | exact clR _) rfl (ih_hid (by first | exact clM _ | exact clC _ | exact clR _) rfl rfl)))) A2 rfl (bh_row rfl (bh_row rfl (bh_hid (by first | exact clM _ | exact clC _ | exact clR _) rfl (bh_hid (by first | exact clM _ | exact clC _ | exact clR _) rfl (bh_hid (by first | exact clM _ | exact clC _ | exact clR _) rfl rfl))))) ?_
          simp only [List.cons_append, List.nil_append]
          refine ev_no rfl (op_gtr (by simp; omega)) ?_
          refine ev_no rfl (op_neq (by have h := R2.calls; simp only at h; simp [h])) ?_
          refine ev_ask rfl rfl rfl ?_
          refine ev_goto rfl (ih_hid (by first | exact clM _ | exact clC _ | exact clR _) rfl (ih_hid (by first | exact clM _ | exact clC _ | exact clR _) rfl (ih_hid (by first | exact clM _ | exact clC _ | exact clR _) rfl rfl))) ?_
          rw [i64_inc i (by omega)]
          exact (ih hi h200).h1 s2 m2 l2 none o2 c2 R2 (by omega)
        · simp only at hl2
          subst hl2
          exact absurd rfl hne2
        · simp only at hl2
          subst hl2
          refine ev_callN2 (f := 24) (sp := spL) rfl (ih_row rfl (ih_row rfl (ih_hid (by first | exact clM _ | exact clC _ | exact clR _) rfl (ih_hid (by first | exact clM _ | exact clC _ | exact clR _) rfl rfl)))) A2 rfl (by first | rfl | exact bh_row rfl (bh_row rfl (bh_hid (clM _) rfl (bh_hid (clC _) rfl rfl))) | exact bh_row rfl (bh_row rfl (bh_hid (clM _) rfl (bh_hid (clC _) rfl (bh_hid (clR _) rfl rfl))))) ?_
          refine ev_call (f := 24) (sp := spL) rfl (ih_row rfl (ih_row rfl (ih_hid (by first | exact clM _ | exact clC _ | exact clR _) rfl (ih_hid (by first | exact clM _ | exact clC _ | exact clR _) rfl rfl)))) A2 rfl (bh_row rfl (bh_row rfl (bh_hid (by first | exact clM _ | exact clC _ | exact clR _) rfl (bh_hid (by first | exact clM _ | exact clC _ | exact clR _) rfl rfl)))) ?_
          simp only [List.cons_append, List.nil_append]
          refine ev_no rfl (op_gtr (by simp; omega)) ?_
          refine ev_no rfl (op_neq (by have h := R2.calls; simp only at h; simp [h])) ?_
          refine ev_ask rfl rfl rfl ?_
          refine ev_goto rfl (ih_hid (by first | exact clM _ | exact clC _ | exact clR _) rfl (ih_hid (by first | exact clM _ | exact clC _ | exact clR _) rfl rfl)) ?_
          rw [i64_inc i (by omega)]
          exact (ih hi h200).h0 s2 m2 o2 c2 R2 (by omega)
      · refine ev_yes rfl (op_eql (by simp; omega)) ?_
        refine ev_call (f := 22) (sp := spL) rfl (ih_row rfl (ih_hid (by first | exact clM _ | exact clC _ | exact clR _) rfl (ih_hid (by first | exact clM _ | exact clC _ | exact clR _) rfl rfl))) (at22 sa (rel_fitCp Ra)) rfl (bh_row rfl (bh_hid (by first | exact clM _ | exact clC _ | exact clR _) rfl (bh_hid (by first | exact clM _ | exact clC _ | exact clR _) rfl (bh_row rfl (bh_hid (by first | exact clM _ | exact clC _ | exact clR _) rfl (bh_hid (by first | exact clM _ | exact clC _ | exact clR _) rfl rfl)))))) ?_
        simp only [List.cons_append, List.nil_append]
        obtain ⟨lc3, cc3, RC3, AC3⟩ := copy_step Ra
        refine ev_call (f := 23) (sp := spL) rfl (ih_row rfl rfl) AC3 rfl (bh_row rfl (bh_row rfl (bh_hid (by first | exact clM _ | exact clC _ | exact clR _) rfl rfl))) ?_
        simp only [List.cons_append, List.nil_append]
        have hlt4 : i < zs.length := by omega
        have hg4 : (zs.map rowAct)[i]? = some (rowAct zs[i]) := by simp [hlt4]
        have hz4 := hz zs[i] (List.getElem_mem hlt4)
        generalize zs[i] = z4 at hg4 hz4
        obtain ⟨kd4, ky4, da4, nn4⟩ := z4
        refine ev_ask rfl (op_idx hg4 rfl) rfl ?_
        simp only [List.cons_append, List.nil_append]
        obtain ⟨s5, r5, R5, hc5⟩ := act_cases (s := sa) (r := ⟨ma, none, oa, ca⟩) (a := ⟨kd4, ky4, da4, nn4⟩) ⟨Ra, hz4.1, hz4.2⟩
        obtain ⟨m5, sh5, o5, c5⟩ := r5
        rcases hc5 with ⟨l5, hl5, A5⟩ | ⟨hl5, hne5, A5⟩ | ⟨hl5, A5⟩
        · simp only at hl5
          subst hl5
          refine ev_call (f := 24) (sp := spL) rfl (ih_row rfl (ih_row rfl (ih_hid (by first | exact clM _ | exact clC _ | exact clR _) rfl (ih_hid (by first | exact clM _ | exact clC _ | exact clR _) rfl rfl)))) A5 rfl (bh_row rfl (bh_row rfl (bh_hid (by first | exact clM _ | exact clC _ | exact clR _) rfl (bh_hid (by first | exact clM _ | exact clC _ | exact clR _) rfl (bh_hid (by first | exact clM _ | exact clC _ | exact clR _) rfl rfl))))) ?_
          simp only [List.cons_append, List.nil_append]
          refine ev_ask rfl (op_gtr (r := false) (by simp; omega)) rfl ?_
          refine ev_no rfl (op_neq (by have h := R5.calls; simp only at h; simp [h])) ?_
          refine ev_ask rfl rfl rfl ?_
          refine ev_goto rfl (ih_hid (by first | exact clM _ | exact clC _ | exact clR _) rfl (ih_hid (by first | exact clM _ | exact clC _ | exact clR _) rfl (ih_hid (by first | exact clM _ | exact clC _ | exact clR _) rfl (ih_hid (by first | exact clM _ | exact clC _ | exact clR _) rfl (ih_hid (by first | exact clM _ | exact clC _ | exact clR _) rfl (ih_hid (by first | exact clM _ | exact clC _ | exact clR _) rfl rfl)))))) ?_
          rw [i64_inc i (by omega)]
          exact (ih hi h200).h3 s5 m5 l5 none o5 c5 sa ma lc3 cc3 oa ca R5 RC3 (by omega)
        · simp only at hl5
          subst hl5
          exact absurd rfl hne5
        · simp only at hl5
          subst hl5
          refine ev_callN2 (f := 24) (sp := spL) rfl (ih_row rfl (ih_row rfl (ih_hid (by first | exact clM _ | exact clC _ | exact clR _) rfl (ih_hid (by first | exact clM _ | exact clC _ | exact clR _) rfl rfl)))) A5 rfl (by first | rfl | exact bh_row rfl (bh_row rfl (bh_hid (clM _) rfl (bh_hid (clC _) rfl rfl))) | exact bh_row rfl (bh_row rfl (bh_hid (clM _) rfl (bh_hid (clC _) rfl (bh_hid (clR _) rfl rfl))))) ?_
          refine ev_call (f := 24) (sp := spL) rfl (ih_row rfl (ih_row rfl (ih_hid (by first | exact clM _ | exact clC _ | exact clR _) rfl (ih_hid (by first | exact clM _ | exact clC _ | exact clR _) rfl rfl)))) A5 rfl (bh_row rfl (bh_row rfl (bh_hid (by first | exact clM _ | exact clC _ | exact clR _) rfl (bh_hid (by first | exact clM _ | exact clC _ | exact clR _) rfl rfl)))) ?_
          simp only [List.cons_append, List.nil_append]
          refine ev_ask rfl (op_gtr (r := false) (by simp; omega)) rfl ?_
          refine ev_no rfl (op_neq (by have h := R5.calls; simp only at h; simp [h])) ?_
          refine ev_ask rfl rfl rfl ?_
          refine ev_goto rfl (ih_hid (by first | exact clM _ | exact clC _ | exact clR _) rfl (ih_hid (by first | exact clM _ | exact clC _ | exact clR _) rfl (ih_hid (by first | exact clM _ | exact clC _ | exact clR _) rfl (ih_hid (by first | exact clM _ | exact clC _ | exact clR _) rfl (ih_hid (by first | exact clM _ | exact clC _ | exact clR _) rfl rfl))))) ?_
          rw [i64_inc i (by omega)]
          exact (ih hi h200).h2 s5 m5 o5 c5 sa ma lc3 cc3 oa ca R5 RC3 (by omega)
    · refine ev_no rfl (op_lss (by simp; omega)) ?_
      simp only [List.cons_append, List.nil_append]
      refine ev_call (f := 18) (sp := spL) rfl (ih_row rfl (ih_hid (by first | exact clM _ | exact clC _ | exact clR _) rfl (ih_hid (by first | exact clM _ | exact clC _ | exact clR _) rfl rfl))) (all_rel_nil Ra rfl) rfl (bh_row rfl (bh_hid (by first | exact clM _ | exact clC _ | exact clR _) rfl (bh_hid (by first | exact clM _ | exact clC _ | exact clR _) rfl rfl))) ?_
      simp only [List.cons_append, List.nil_append]
      refine ev_pite (f := 25) (sp := spL) rfl rfl (same_of (a := none) (b := none) rfl (by simp [osL])) (fun _ => ?_) (fun hb => by cases hb)
      refine ev_call (f := 26) (sp := spL) rfl rfl (at26 (none) (by simp [osL])) rfl rfl ?_
      refine ev_call (f := 18) (sp := spL) rfl (ih_row rfl (ih_hid (by first | exact clM _ | exact clC _ | exact clR _) rfl (ih_hid (by first | exact clM _ | exact clC _ | exact clR _) rfl rfl))) (all_rel_nil Ra rfl) rfl (bh_row rfl (bh_hid (by first | exact clM _ | exact clC _ | exact clR _) rfl (bh_hid (by first | exact clM _ | exact clC _ | exact clR _) rfl rfl))) ?_
      simp only [List.cons_append, List.nil_append]
      refine ev_call (f := 18) (sp := spL) rfl (ih_row rfl (ih_hid (by first | exact clM _ | exact clC _ | exact clR _) rfl (ih_hid (by first | exact clM _ | exact clC _ | exact clR _) rfl rfl))) (all_rel_nil Ra rfl) rfl (bh_row rfl (bh_hid (by first | exact clM _ | exact clC _ | exact clR _) rfl (bh_hid (by first | exact clM _ | exact clC _ | exact clR _) rfl rfl))) ?_
      simp only [List.cons_append, List.nil_append]
      exact ev_ret rfl rfl
  · refine ev_no rfl (op_lss (by simp; omega)) ?_
    simp only [List.cons_append, List.nil_append]
    refine ev_call (f := 18) (sp := spL) rfl (ih_row rfl (ih_hid (by first | exact clM _ | exact clC _ | exact clR _) rfl (ih_hid (by first | exact clM _ | exact clC _ | exact clR _) rfl rfl))) (all_rel_nil Ra rfl) rfl (bh_row rfl (bh_hid (by first | exact clM _ | exact clC _ | exact clR _) rfl (bh_hid (by first | exact clM _ | exact clC _ | exact clR _) rfl rfl))) ?_
    simp only [List.cons_append, List.nil_append]
    refine ev_pite (f := 25) (sp := spL) rfl rfl (same_of (a := none) (b := none) rfl (by simp [osL])) (fun _ => ?_) (fun hb => by cases hb)
    refine ev_call (f := 26) (sp := spL) rfl rfl (at26 (none) (by simp [osL])) rfl rfl ?_
    refine ev_call (f := 18) (sp := spL) rfl (ih_row rfl (ih_hid (by first | exact clM _ | exact clC _ | exact clR _) rfl (ih_hid (by first | exact clM _ | exact clC _ | exact clR _) rfl rfl))) (all_rel_nil Ra rfl) rfl (bh_row rfl (bh_hid (by first | exact clM _ | exact clC _ | exact clR _) rfl (bh_hid (by first | exact clM _ | exact clC _ | exact clR _) rfl rfl))) ?_
    simp only [List.cons_append, List.nil_append]
    refine ev_call (f := 18) (sp := spL) rfl (ih_row rfl (ih_hid (by first | exact clM _ | exact clC _ | exact clR _) rfl (ih_hid (by first | exact clM _ | exact clC _ | exact clR _) rfl rfl))) (all_rel_nil Ra rfl) rfl (bh_row rfl (bh_hid (by first | exact clM _ | exact clC _ | exact clR _) rfl (bh_hid (by first | exact clM _ | exact clC _ | exact clR _) rfl rfl))) ?_
    simp only [List.cons_append, List.nil_append]
    exact ev_ret rfl rfl
set_option maxHeartbeats 8000000 in
theorem node1 (zs : List ActD) (hz : ∀ z ∈ zs, okAct z) (q i : Nat) (hile : i ≤ zs.length) (h200' : i ≤ 200) (ih : i < zs.length → i < 200 → AllN zs q (i + 1)) : ∀ (sa : StD) (ma : Int) (osa : List EntS) (capa : Option Nat) (oa ca : Int), Rel sa ⟨ma, some (osa, capa), oa, ca⟩ → i ≤ 30 → F8.next spL (q + 1) 1 [acA zs, .int .i64 ((i : Nat) : Int), .int .i64 sa.most, .int .i64 sa.calls, .int .i64 ma, .sl 0 0 osa.length 3 capa, .int .i64 oa, .int .i64 ca] [mapO sa.es, chO sa.owed, .row (rowO osa)] = some (.bool true, []) := by
  intro sa ma osa capa oa ca Ra hph
  refine next_succ rfl ?_
  refine ev_ask rfl rfl rfl ?_
  rcases Nat.lt_or_ge i zs.length with hi | hi
  · refine ev_yes rfl (op_lss (by simp; omega)) ?_
    rcases Nat.lt_or_ge i 200 with h200 | h200
    · refine ev_yes rfl (op_lss (by simp; omega)) ?_
      rcases Nat.lt_or_ge i 30 with h30 | h30
      · refine ev_no rfl (op_eql (by simp; omega)) ?_
        have hlt6 : i < zs.length := by omega
        have hg6 : (zs.map rowAct)[i]? = some (rowAct zs[i]) := by simp [hlt6]
        have hz6 := hz zs[i] (List.getElem_mem hlt6)
        generalize zs[i] = z6 at hg6 hz6
        obtain ⟨kd6, ky6, da6, nn6⟩ := z6
        refine ev_ask rfl (op_idx hg6 rfl) rfl ?_
        simp only [List.cons_append, List.nil_append]
        obtain ⟨s7, r7, R7, hc7⟩ := act_cases (s := sa) (r := ⟨ma, some (osa, capa), oa, ca⟩) (a := ⟨kd6, ky6, da6, nn6⟩) ⟨Ra, hz6.1, hz6.2⟩
        obtain ⟨m7, sh7, o7, c7⟩ := r7
        rcases hc7 with ⟨l7, hl7, A7⟩ | ⟨hl7, hne7, A7⟩ | ⟨hl7, A7⟩
        · simp only at hl7
          subst hl7
          refine ev_call (f := 24) (sp := spL) rfl (ih_row rfl (ih_row rfl (ih_hid (by first | exact clM _ | exact clC _ | exact clR _) rfl (ih_hid (by first | exact clM _ | exact clC _ | exact clR _) rfl (ih_hid (by first | exact clM _ | exact clC _ | exact clR _) rfl rfl))))) A7 rfl (bh_row rfl (bh_row rfl (bh_hid (by first | exact clM _ | exact clC _ | exact clR _) rfl (bh_hid (by first | exact clM _ | exact clC _ | exact clR _) rfl (bh_hid (by first | exact clM _ | exact clC _ | exact clR _) rfl (bh_hid (by first | exact clM _ | exact clC _ | exact clR _) rfl rfl)))))) ?_
          simp only [List.cons_append, List.nil_append]
          refine ev_no rfl (op_gtr (by simp; omega)) ?_
          refine ev_no rfl (op_neq (by have h := R7.calls; simp only at h; simp [h])) ?_
          refine ev_ask rfl rfl rfl ?_
          refine ev_goto rfl (ih_hid (by first | exact clM _ | exact clC _ | exact clR _) rfl (ih_hid (by first | exact clM _ | exact clC _ | exact clR _) rfl (ih_hid (by first | exact clM _ | exact clC _ | exact clR _) rfl rfl))) ?_
          rw [i64_inc i (by omega)]
          exact (ih hi h200).h1 s7 m7 l7 none o7 c7 R7 (by omega)
        · simp only at hl7
          subst hl7
          refine ev_callN2 (f := 24) (sp := spL) rfl (ih_row rfl (ih_row rfl (ih_hid (by first | exact clM _ | exact clC _ | exact clR _) rfl (ih_hid (by first | exact clM _ | exact clC _ | exact clR _) rfl (ih_hid (by first | exact clM _ | exact clC _ | exact clR _) rfl rfl))))) A7 rfl (by first | rfl | exact bh_row rfl (bh_row rfl (bh_hid (clM _) rfl (bh_hid (clC _) rfl rfl))) | exact bh_row rfl (bh_row rfl (bh_hid (clM _) rfl (bh_hid (clC _) rfl (bh_hid (clR _) rfl rfl))))) ?_
          refine ev_call (f := 24) (sp := spL) rfl (ih_row rfl (ih_row rfl (ih_hid (by first | exact clM _ | exact clC _ | exact clR _) rfl (ih_hid (by first | exact clM _ | exact clC _ | exact clR _) rfl (ih_hid (by first | exact clM _ | exact clC _ | exact clR _) rfl rfl))))) A7 rfl (bh_row rfl (bh_row rfl (bh_hid (by first | exact clM _ | exact clC _ | exact clR _) rfl (bh_hid (by first | exact clM _ | exact clC _ | exact clR _) rfl (bh_hid (by first | exact clM _ | exact clC _ | exact clR _) rfl rfl))))) ?_
          simp only [List.cons_append, List.nil_append]
          refine ev_no rfl (op_gtr (by simp; omega)) ?_
          refine ev_no rfl (op_neq (by have h := R7.calls; simp only at h; simp [h])) ?_
          refine ev_ask rfl rfl rfl ?_
          refine ev_goto rfl (ih_hid (by first | exact clM _ | exact clC _ | exact clR _) rfl (ih_hid (by first | exact clM _ | exact clC _ | exact clR _) rfl rfl)) ?_
          rw [i64_inc i (by omega)]
          exact (ih hi h200).h0 s7 m7 o7 c7 R7 (by omega)
        · simp only at hl7
          subst hl7
          refine ev_callN2 (f := 24) (sp := spL) rfl (ih_row rfl (ih_row rfl (ih_hid (by first | exact clM _ | exact clC _ | exact clR _) rfl (ih_hid (by first | exact clM _ | exact clC _ | exact clR _) rfl (ih_hid (by first | exact clM _ | exact clC _ | exact clR _) rfl rfl))))) A7 rfl (by first | rfl | exact bh_row rfl (bh_row rfl (bh_hid (clM _) rfl (bh_hid (clC _) rfl rfl))) | exact bh_row rfl (bh_row rfl (bh_hid (clM _) rfl (bh_hid (clC _) rfl (bh_hid (clR _) rfl rfl))))) ?_
          refine ev_callN2 (f := 24) (sp := spL) rfl (ih_row rfl (ih_row rfl (ih_hid (by first | exact clM _ | exact clC _ | exact clR _) rfl (ih_hid (by first | exact clM _ | exact clC _ | exact clR _) rfl (ih_hid (by first | exact clM _ | exact clC _ | exact clR _) rfl rfl))))) A7 rfl (by first | rfl | exact bh_row rfl (bh_row rfl (bh_hid (clM _) rfl (bh_hid (clC _) rfl rfl))) | exact bh_row rfl (bh_row rfl (bh_hid (clM _) rfl (bh_hid (clC _) rfl (bh_hid (clR _) rfl rfl))))) ?_
          refine ev_call (f := 24) (sp := spL) rfl (ih_row rfl (ih_row rfl (ih_hid (by first | exact clM _ | exact clC _ | exact clR _) rfl (ih_hid (by first | exact clM _ | exact clC _ | exact clR _) rfl (ih_hid (by first | exact clM _ | exact clC _ | exact clR _) rfl rfl))))) A7 rfl (bh_row rfl (bh_row rfl (bh_hid (by first | exact clM _ | exact clC _ | exact clR _) rfl (bh_hid (by first | exact clM _ | exact clC _ | exact clR _) rfl (bh_hid (by first | exact clM _ | exact clC _ | exact clR _) rfl rfl))))) ?_
          simp only [List.cons_append, List.nil_append]
          refine ev_no rfl (op_gtr (by simp; omega)) ?_
          refine ev_no rfl (op_neq (by have h := R7.calls; simp only at h; simp [h])) ?_
          refine ev_ask rfl rfl rfl ?_
          refine ev_goto rfl (ih_hid (by first | exact clM _ | exact clC _ | exact clR _) rfl (ih_hid (by first | exact clM _ | exact clC _ | exact clR _) rfl (ih_hid (by first | exact clM _ | exact clC _ | exact clR _) rfl rfl))) ?_
          rw [i64_inc i (by omega)]
          exact (ih hi h200).h1 s7 m7 osa capa o7 c7 R7 (by omega)
      · refine ev_yes rfl (op_eql (by simp; omega)) ?_
        refine ev_call (f := 22) (sp := spL) rfl (ih_row rfl (ih_hid (by first | exact clM _ | exact clC _ | exact clR _) rfl (ih_hid (by first | exact clM _ | exact clC _ | exact clR _) rfl rfl))) (at22 sa (rel_fitCp Ra)) rfl (bh_row rfl (bh_hid (by first | exact clM _ | exact clC _ | exact clR _) rfl (bh_hid (by first | exact clM _ | exact clC _ | exact clR _) rfl (bh_row rfl (bh_hid (by first | exact clM _ | exact clC _ | exact clR _) rfl (bh_hid (by first | exact clM _ | exact clC _ | exact clR _) rfl rfl)))))) ?_
        simp only [List.cons_append, List.nil_append]
        obtain ⟨lc8, cc8, RC8, AC8⟩ := copy_step Ra
        refine ev_call (f := 23) (sp := spL) rfl (ih_row rfl (ih_hid (by first | exact clM _ | exact clC _ | exact clR _) rfl rfl)) AC8 rfl (bh_row rfl (bh_hid (by first | exact clM _ | exact clC _ | exact clR _) rfl (bh_row rfl (bh_hid (by first | exact clM _ | exact clC _ | exact clR _) rfl rfl)))) ?_
        simp only [List.cons_append, List.nil_append]
        have hlt9 : i < zs.length := by omega
        have hg9 : (zs.map rowAct)[i]? = some (rowAct zs[i]) := by simp [hlt9]
        have hz9 := hz zs[i] (List.getElem_mem hlt9)
        generalize zs[i] = z9 at hg9 hz9
        obtain ⟨kd9, ky9, da9, nn9⟩ := z9
        refine ev_ask rfl (op_idx hg9 rfl) rfl ?_
        simp only [List.cons_append, List.nil_append]
        obtain ⟨s10, r10, R10, hc10⟩ := act_cases (s := sa) (r := ⟨ma, some (osa, capa), oa, ca⟩) (a := ⟨kd9, ky9, da9, nn9⟩) ⟨Ra, hz9.1, hz9.2⟩
        obtain ⟨m10, sh10, o10, c10⟩ := r10
        rcases hc10 with ⟨l10, hl10, A10⟩ | ⟨hl10, hne10, A10⟩ | ⟨hl10, A10⟩
        · simp only at hl10
          subst hl10
          refine ev_call (f := 24) (sp := spL) rfl (ih_row rfl (ih_row rfl (ih_hid (by first | exact clM _ | exact clC _ | exact clR _) rfl (ih_hid (by first | exact clM _ | exact clC _ | exact clR _) rfl (ih_hid (by first | exact clM _ | exact clC _ | exact clR _) rfl rfl))))) A10 rfl (bh_row rfl (bh_row rfl (bh_hid (by first | exact clM _ | exact clC _ | exact clR _) rfl (bh_hid (by first | exact clM _ | exact clC _ | exact clR _) rfl (bh_hid (by first | exact clM _ | exact clC _ | exact clR _) rfl (bh_hid (by first | exact clM _ | exact clC _ | exact clR _) rfl rfl)))))) ?_
          simp only [List.cons_append, List.nil_append]
          refine ev_ask rfl (op_gtr (r := false) (by simp; omega)) rfl ?_
          refine ev_no rfl (op_neq (by have h := R10.calls; simp only at h; simp [h])) ?_
          refine ev_ask rfl rfl rfl ?_
          refine ev_goto rfl (ih_hid (by first | exact clM _ | exact clC _ | exact clR _) rfl (ih_hid (by first | exact clM _ | exact clC _ | exact clR _) rfl (ih_hid (by first | exact clM _ | exact clC _ | exact clR _) rfl (ih_hid (by first | exact clM _ | exact clC _ | exact clR _) rfl (ih_hid (by first | exact clM _ | exact clC _ | exact clR _) rfl (ih_hid (by first | exact clM _ | exact clC _ | exact clR _) rfl rfl)))))) ?_
          rw [i64_inc i (by omega)]
          exact (ih hi h200).h3 s10 m10 l10 none o10 c10 sa ma lc8 cc8 oa ca R10 RC8 (by omega)
        · simp only at hl10
          subst hl10
          refine ev_callN2 (f := 24) (sp := spL) rfl (ih_row rfl (ih_row rfl (ih_hid (by first | exact clM _ | exact clC _ | exact clR _) rfl (ih_hid (by first | exact clM _ | exact clC _ | exact clR _) rfl (ih_hid (by first | exact clM _ | exact clC _ | exact clR _) rfl rfl))))) A10 rfl (by first | rfl | exact bh_row rfl (bh_row rfl (bh_hid (clM _) rfl (bh_hid (clC _) rfl rfl))) | exact bh_row rfl (bh_row rfl (bh_hid (clM _) rfl (bh_hid (clC _) rfl (bh_hid (clR _) rfl rfl))))) ?_
          refine ev_call (f := 24) (sp := spL) rfl (ih_row rfl (ih_row rfl (ih_hid (by first | exact clM _ | exact clC _ | exact clR _) rfl (ih_hid (by first | exact clM _ | exact clC _ | exact clR _) rfl (ih_hid (by first | exact clM _ | exact clC _ | exact clR _) rfl rfl))))) A10 rfl (bh_row rfl (bh_row rfl (bh_hid (by first | exact clM _ | exact clC _ | exact clR _) rfl (bh_hid (by first | exact clM _ | exact clC _ | exact clR _) rfl (bh_hid (by first | exact clM _ | exact clC _ | exact clR _) rfl rfl))))) ?_
          simp only [List.cons_append, List.nil_append]
          refine ev_ask rfl (op_gtr (r := false) (by simp; omega)) rfl ?_
          refine ev_no rfl (op_neq (by have h := R10.calls; simp only at h; simp [h])) ?_
          refine ev_ask rfl rfl rfl ?_
          refine ev_goto rfl (ih_hid (by first | exact clM _ | exact clC _ | exact clR _) rfl (ih_hid (by first | exact clM _ | exact clC _ | exact clR _) rfl (ih_hid (by first | exact clM _ | exact clC _ | exact clR _) rfl (ih_hid (by first | exact clM _ | exact clC _ | exact clR _) rfl (ih_hid (by first | exact clM _ | exact clC _ | exact clR _) rfl rfl))))) ?_
          rw [i64_inc i (by omega)]
          exact (ih hi h200).h2 s10 m10 o10 c10 sa ma lc8 cc8 oa ca R10 RC8 (by omega)
        · simp only at hl10
          subst hl10
          refine ev_callN2 (f := 24) (sp := spL) rfl (ih_row rfl (ih_row rfl (ih_hid (by first | exact clM _ | exact clC _ | exact clR _) rfl (ih_hid (by first | exact clM _ | exact clC _ | exact clR _) rfl (ih_hid (by first | exact clM _ | exact clC _ | exact clR _) rfl rfl))))) A10 rfl (by first | rfl | exact bh_row rfl (bh_row rfl (bh_hid (clM _) rfl (bh_hid (clC _) rfl rfl))) | exact bh_row rfl (bh_row rfl (bh_hid (clM _) rfl (bh_hid (clC _) rfl (bh_hid (clR _) rfl rfl))))) ?_
          refine ev_callN2 (f := 24) (sp := spL) rfl (ih_row rfl (ih_row rfl (ih_hid (by first | exact clM _ | exact clC _ | exact clR _) rfl (ih_hid (by first | exact clM _ | exact clC _ | exact clR _) rfl (ih_hid (by first | exact clM _ | exact clC _ | exact clR _) rfl rfl))))) A10 rfl (by first | rfl | exact bh_row rfl (bh_row rfl (bh_hid (clM _) rfl (bh_hid (clC _) rfl rfl))) | exact bh_row rfl (bh_row rfl (bh_hid (clM _) rfl (bh_hid (clC _) rfl (bh_hid (clR _) rfl rfl))))) ?_
          refine ev_call (f := 24) (sp := spL) rfl (ih_row rfl (ih_row rfl (ih_hid (by first | exact clM _ | exact clC _ | exact clR _) rfl (ih_hid (by first | exact clM _ | exact clC _ | exact clR _) rfl (ih_hid (by first | exact clM _ | exact clC _ | exact clR _) rfl rfl))))) A10 rfl (bh_row rfl (bh_row rfl (bh_hid (by first | exact clM _ | exact clC _ | exact clR _) rfl (bh_hid (by first | exact clM _ | exact clC _ | exact clR _) rfl (bh_hid (by first | exact clM _ | exact clC _ | exact clR _) rfl rfl))))) ?_
          simp only [List.cons_append, List.nil_append]
          refine ev_ask rfl (op_gtr (r := false) (by simp; omega)) rfl ?_
          refine ev_no rfl (op_neq (by have h := R10.calls; simp only at h; simp [h])) ?_
          refine ev_ask rfl rfl rfl ?_
          refine ev_goto rfl (ih_hid (by first | exact clM _ | exact clC _ | exact clR _) rfl (ih_hid (by first | exact clM _ | exact clC _ | exact clR _) rfl (ih_hid (by first | exact clM _ | exact clC _ | exact clR _) rfl (ih_hid (by first | exact clM _ | exact clC _ | exact clR _) rfl (ih_hid (by first | exact clM _ | exact clC _ | exact clR _) rfl (ih_hid (by first | exact clM _ | exact clC _ | exact clR _) rfl rfl)))))) ?_
          rw [i64_inc i (by omega)]
          exact (ih hi h200).h3 s10 m10 osa capa o10 c10 sa ma lc8 cc8 oa ca R10 RC8 (by omega)
    · refine ev_no rfl (op_lss (by simp; omega)) ?_
      simp only [List.cons_append, List.nil_append]
      by_cases hEa : osa = []
      ·
        refine ev_callN2 (f := 18) (sp := spL) rfl (ih_row rfl (ih_hid (by first | exact clM _ | exact clC _ | exact clR _) rfl (ih_hid (by first | exact clM _ | exact clC _ | exact clR _) rfl rfl))) (all_rel_nil Ra hEa) rfl (bh_row rfl (bh_hid (clM _) rfl (bh_hid (clC _) rfl rfl))) ?_
        refine ev_call (f := 18) (sp := spL) rfl (ih_row rfl (ih_hid (by first | exact clM _ | exact clC _ | exact clR _) rfl (ih_hid (by first | exact clM _ | exact clC _ | exact clR _) rfl rfl))) (all_rel_nil Ra hEa) rfl (bh_row rfl (bh_hid (by first | exact clM _ | exact clC _ | exact clR _) rfl (bh_hid (by first | exact clM _ | exact clC _ | exact clR _) rfl rfl))) ?_
        simp only [List.cons_append, List.nil_append]
        refine ev_pite (f := 25) (sp := spL) rfl (ih_hid (by first | exact clM _ | exact clC _ | exact clR _) rfl rfl) (same_of (a := none) (b := some (osa, capa)) hEa.symm (by simp [osL])) (fun _ => ?_) (fun hb => by cases hb)
        refine ev_call (f := 26) (sp := spL) rfl rfl (at26 (none) (by simp [osL])) rfl rfl ?_
        refine ev_callN2 (f := 18) (sp := spL) rfl (ih_row rfl (ih_hid (by first | exact clM _ | exact clC _ | exact clR _) rfl (ih_hid (by first | exact clM _ | exact clC _ | exact clR _) rfl rfl))) (all_rel_nil Ra hEa) rfl (bh_row rfl (bh_hid (clM _) rfl (bh_hid (clC _) rfl rfl))) ?_
        refine ev_call (f := 18) (sp := spL) rfl (ih_row rfl (ih_hid (by first | exact clM _ | exact clC _ | exact clR _) rfl (ih_hid (by first | exact clM _ | exact clC _ | exact clR _) rfl rfl))) (all_rel_nil Ra hEa) rfl (bh_row rfl (bh_hid (by first | exact clM _ | exact clC _ | exact clR _) rfl (bh_hid (by first | exact clM _ | exact clC _ | exact clR _) rfl rfl))) ?_
        simp only [List.cons_append, List.nil_append]
        refine ev_callN2 (f := 18) (sp := spL) rfl (ih_row rfl (ih_hid (by first | exact clM _ | exact clC _ | exact clR _) rfl (ih_hid (by first | exact clM _ | exact clC _ | exact clR _) rfl rfl))) (all_rel_nil Ra hEa) rfl (bh_row rfl (bh_hid (clM _) rfl (bh_hid (clC _) rfl rfl))) ?_
        refine ev_call (f := 18) (sp := spL) rfl (ih_row rfl (ih_hid (by first | exact clM _ | exact clC _ | exact clR _) rfl (ih_hid (by first | exact clM _ | exact clC _ | exact clR _) rfl rfl))) (all_rel_nil Ra hEa) rfl (bh_row rfl (bh_hid (by first | exact clM _ | exact clC _ | exact clR _) rfl (bh_hid (by first | exact clM _ | exact clC _ | exact clR _) rfl rfl))) ?_
        simp only [List.cons_append, List.nil_append]
        exact ev_ret rfl rfl
      ·
        refine ev_call (f := 18) (sp := spL) rfl (ih_row rfl (ih_hid (by first | exact clM _ | exact clC _ | exact clR _) rfl (ih_hid (by first | exact clM _ | exact clC _ | exact clR _) rfl rfl))) (all_rel_some Ra hEa) rfl (bh_row rfl (bh_hid (by first | exact clM _ | exact clC _ | exact clR _) rfl (bh_hid (by first | exact clM _ | exact clC _ | exact clR _) rfl (bh_hid (by first | exact clM _ | exact clC _ | exact clR _) rfl rfl)))) ?_
        simp only [List.cons_append, List.nil_append]
        refine ev_pite (f := 25) (sp := spL) rfl (ih_hid (by first | exact clM _ | exact clC _ | exact clR _) rfl (ih_hid (by first | exact clM _ | exact clC _ | exact clR _) rfl rfl)) (same_of (a := some (osa, none)) (b := some (osa, capa)) rfl (by have := rel_len Ra; simp only [osL] at this ⊢; omega)) (fun _ => ?_) (fun hb => by cases hb)
        refine ev_call (f := 26) (sp := spL) rfl (ih_hid (by first | exact clM _ | exact clC _ | exact clR _) rfl rfl) (at26 (some (osa, none)) (by have := rel_len Ra; simp only [osL] at this ⊢; omega)) rfl (bh_hid (by first | exact clM _ | exact clC _ | exact clR _) rfl rfl) ?_
        simp only [List.cons_append, List.nil_append]
        refine ev_call (f := 18) (sp := spL) rfl (ih_row rfl (ih_hid (by first | exact clM _ | exact clC _ | exact clR _) rfl (ih_hid (by first | exact clM _ | exact clC _ | exact clR _) rfl rfl))) (all_rel_some Ra hEa) rfl (bh_row rfl (bh_hid (by first | exact clM _ | exact clC _ | exact clR _) rfl (bh_hid (by first | exact clM _ | exact clC _ | exact clR _) rfl (bh_hid (by first | exact clM _ | exact clC _ | exact clR _) rfl rfl)))) ?_
        simp only [List.cons_append, List.nil_append]
        refine ev_pite (f := 25) (sp := spL) rfl (ih_hid (by first | exact clM _ | exact clC _ | exact clR _) rfl (ih_hid (by first | exact clM _ | exact clC _ | exact clR _) rfl rfl)) (same_of (a := some (osa, none)) (b := some (osa, capa)) rfl (by have := rel_len Ra; simp only [osL] at this ⊢; omega)) (fun _ => ?_) (fun hb => by cases hb)
        refine ev_call (f := 18) (sp := spL) rfl (ih_row rfl (ih_hid (by first | exact clM _ | exact clC _ | exact clR _) rfl (ih_hid (by first | exact clM _ | exact clC _ | exact clR _) rfl rfl))) (all_rel_some Ra hEa) rfl (bh_row rfl (bh_hid (by first | exact clM _ | exact clC _ | exact clR _) rfl (bh_hid (by first | exact clM _ | exact clC _ | exact clR _) rfl (bh_hid (by first | exact clM _ | exact clC _ | exact clR _) rfl rfl)))) ?_
        simp only [List.cons_append, List.nil_append]
        refine ev_pite (f := 25) (sp := spL) rfl (ih_hid (by first | exact clM _ | exact clC _ | exact clR _) rfl (ih_hid (by first | exact clM _ | exact clC _ | exact clR _) rfl rfl)) (same_of (a := some (osa, none)) (b := some (osa, capa)) rfl (by have := rel_len Ra; simp only [osL] at this ⊢; omega)) (fun _ => ?_) (fun hb => by cases hb)
        exact ev_ret rfl rfl
  · refine ev_no rfl (op_lss (by simp; omega)) ?_
    simp only [List.cons_append, List.nil_append]
    by_cases hEa : osa = []
    ·
      refine ev_callN2 (f := 18) (sp := spL) rfl (ih_row rfl (ih_hid (by first | exact clM _ | exact clC _ | exact clR _) rfl (ih_hid (by first | exact clM _ | exact clC _ | exact clR _) rfl rfl))) (all_rel_nil Ra hEa) rfl (bh_row rfl (bh_hid (clM _) rfl (bh_hid (clC _) rfl rfl))) ?_
      refine ev_call (f := 18) (sp := spL) rfl (ih_row rfl (ih_hid (by first | exact clM _ | exact clC _ | exact clR _) rfl (ih_hid (by first | exact clM _ | exact clC _ | exact clR _) rfl rfl))) (all_rel_nil Ra hEa) rfl (bh_row rfl (bh_hid (by first | exact clM _ | exact clC _ | exact clR _) rfl (bh_hid (by first | exact clM _ | exact clC _ | exact clR _) rfl rfl))) ?_
      simp only [List.cons_append, List.nil_append]
      refine ev_pite (f := 25) (sp := spL) rfl (ih_hid (by first | exact clM _ | exact clC _ | exact clR _) rfl rfl) (same_of (a := none) (b := some (osa, capa)) hEa.symm (by simp [osL])) (fun _ => ?_) (fun hb => by cases hb)
      refine ev_call (f := 26) (sp := spL) rfl rfl (at26 (none) (by simp [osL])) rfl rfl ?_
      refine ev_callN2 (f := 18) (sp := spL) rfl (ih_row rfl (ih_hid (by first | exact clM _ | exact clC _ | exact clR _) rfl (ih_hid (by first | exact clM _ | exact clC _ | exact clR _) rfl rfl))) (all_rel_nil Ra hEa) rfl (bh_row rfl (bh_hid (clM _) rfl (bh_hid (clC _) rfl rfl))) ?_
      refine ev_call (f := 18) (sp := spL) rfl (ih_row rfl (ih_hid (by first | exact clM _ | exact clC _ | exact clR _) rfl (ih_hid (by first | exact clM _ | exact clC _ | exact clR _) rfl rfl))) (all_rel_nil Ra hEa) rfl (bh_row rfl (bh_hid (by first | exact clM _ | exact clC _ | exact clR _) rfl (bh_hid (by first | exact clM _ | exact clC _ | exact clR _) rfl rfl))) ?_
      simp only [List.cons_append, List.nil_append]
      refine ev_callN2 (f := 18) (sp := spL) rfl (ih_row rfl (ih_hid (by first | exact clM _ | exact clC _ | exact clR _) rfl (ih_hid (by first | exact clM _ | exact clC _ | exact clR _) rfl rfl))) (all_rel_nil Ra hEa) rfl (bh_row rfl (bh_hid (clM _) rfl (bh_hid (clC _) rfl rfl))) ?_
      refine ev_call (f := 18) (sp := spL) rfl (ih_row rfl (ih_hid (by first | exact clM _ | exact clC _ | exact clR _) rfl (ih_hid (by first | exact clM _ | exact clC _ | exact clR _) rfl rfl))) (all_rel_nil Ra hEa) rfl (bh_row rfl (bh_hid (by first | exact clM _ | exact clC _ | exact clR _) rfl (bh_hid (by first | exact clM _ | exact clC _ | exact clR _) rfl rfl))) ?_
      simp only [List.cons_append, List.nil_append]
      exact ev_ret rfl rfl
    ·
      refine ev_call (f := 18) (sp := spL) rfl (ih_row rfl (ih_hid (by first | exact clM _ | exact clC _ | exact clR _) rfl (ih_hid (by first | exact clM _ | exact clC _ | exact clR _) rfl rfl))) (all_rel_some Ra hEa) rfl (bh_row rfl (bh_hid (by first | exact clM _ | exact clC _ | exact clR _) rfl (bh_hid (by first | exact clM _ | exact clC _ | exact clR _) rfl (bh_hid (by first | exact clM _ | exact clC _ | exact clR _) rfl rfl)))) ?_
      simp only [List.cons_append, List.nil_append]
      refine ev_pite (f := 25) (sp := spL) rfl (ih_hid (by first | exact clM _ | exact clC _ | exact clR _) rfl (ih_hid (by first | exact clM _ | exact clC _ | exact clR _) rfl rfl)) (same_of (a := some (osa, none)) (b := some (osa, capa)) rfl (by have := rel_len Ra; simp only [osL] at this ⊢; omega)) (fun _ => ?_) (fun hb => by cases hb)
      refine ev_call (f := 26) (sp := spL) rfl (ih_hid (by first | exact clM _ | exact clC _ | exact clR _) rfl rfl) (at26 (some (osa, none)) (by have := rel_len Ra; simp only [osL] at this ⊢; omega)) rfl (bh_hid (by first | exact clM _ | exact clC _ | exact clR _) rfl rfl) ?_
      simp only [List.cons_append, List.nil_append]
      refine ev_call (f := 18) (sp := spL) rfl (ih_row rfl (ih_hid (by first | exact clM _ | exact clC _ | exact clR _) rfl (ih_hid (by first | exact clM _ | exact clC _ | exact clR _) rfl rfl))) (all_rel_some Ra hEa) rfl (bh_row rfl (bh_hid (by first | exact clM _ | exact clC _ | exact clR _) rfl (bh_hid (by first | exact clM _ | exact clC _ | exact clR _) rfl (bh_hid (by first | exact clM _ | exact clC _ | exact clR _) rfl rfl)))) ?_
      simp only [List.cons_append, List.nil_append]
      refine ev_pite (f := 25) (sp := spL) rfl (ih_hid (by first | exact clM _ | exact clC _ | exact clR _) rfl (ih_hid (by first | exact clM _ | exact clC _ | exact clR _) rfl rfl)) (same_of (a := some (osa, none)) (b := some (osa, capa)) rfl (by have := rel_len Ra; simp only [osL] at this ⊢; omega)) (fun _ => ?_) (fun hb => by cases hb)
      refine ev_call (f := 18) (sp := spL) rfl (ih_row rfl (ih_hid (by first | exact clM _ | exact clC _ | exact clR _) rfl (ih_hid (by first | exact clM _ | exact clC _ | exact clR _) rfl rfl))) (all_rel_some Ra hEa) rfl (bh_row rfl (bh_hid (by first | exact clM _ | exact clC _ | exact clR _) rfl (bh_hid (by first | exact clM _ | exact clC _ | exact clR _) rfl (bh_hid (by first | exact clM _ | exact clC _ | exact clR _) rfl rfl)))) ?_
      simp only [List.cons_append, List.nil_append]
      refine ev_pite (f := 25) (sp := spL) rfl (ih_hid (by first | exact clM _ | exact clC _ | exact clR _) rfl (ih_hid (by first | exact clM _ | exact clC _ | exact clR _) rfl rfl)) (same_of (a := some (osa, none)) (b := some (osa, capa)) rfl (by have := rel_len Ra; simp only [osL] at this ⊢; omega)) (fun _ => ?_) (fun hb => by cases hb)
      exact ev_ret rfl rfl
set_option maxHeartbeats 8000000 in
theorem node2 (zs : List ActD) (hz : ∀ z ∈ zs, okAct z) (q i : Nat) (hile : i ≤ zs.length) (h200' : i ≤ 200) (ih : i < zs.length → i < 200 → AllN zs q (i + 1)) : ∀ (sa : StD) (ma : Int) (oa ca : Int) (sb : StD) (mb : Int) (osb : List EntS) (capb : Option Nat) (ob cb : Int), Rel sa ⟨ma, none, oa, ca⟩ → Rel sb ⟨mb, some (osb, capb), ob, cb⟩ → 31 ≤ i → F8.next spL (q + 1) 2 [acA zs, .int .i64 ((i : Nat) : Int), .int .i64 sa.most, .int .i64 sa.calls, .int .i64 ma, .int .i64 oa, .int .i64 ca, .int .i64 sb.most, .int .i64 sb.calls, .int .i64 mb, .sl 0 0 osb.length 3 capb, .int .i64 ob, .int .i64 cb] [mapO sa.es, chO sa.owed, mapO sb.es, chO sb.owed, .row (rowO osb)] = some (.bool true, []) := by
  intro sa ma oa ca sb mb osb capb ob cb Ra Rb hph
  refine next_succ rfl ?_
  refine ev_ask rfl rfl rfl ?_
  rcases Nat.lt_or_ge i zs.length with hi | hi
  · refine ev_yes rfl (op_lss (by simp; omega)) ?_
    rcases Nat.lt_or_ge i 200 with h200 | h200
    · refine ev_yes rfl (op_lss (by simp; omega)) ?_
      refine ev_no rfl (op_eql (by simp; omega)) ?_
      have hlt11 : i < zs.length := by omega
      have hg11 : (zs.map rowAct)[i]? = some (rowAct zs[i]) := by simp [hlt11]
      have hz11 := hz zs[i] (List.getElem_mem hlt11)
      generalize zs[i] = z11 at hg11 hz11
      obtain ⟨kd11, ky11, da11, nn11⟩ := z11
      refine ev_ask rfl (op_idx hg11 rfl) rfl ?_
      simp only [List.cons_append, List.nil_append]
      obtain ⟨s12, r12, R12, hc12⟩ := act_cases (s := sa) (r := ⟨ma, none, oa, ca⟩) (a := ⟨kd11, ky11, da11, nn11⟩) ⟨Ra, hz11.1, hz11.2⟩
      obtain ⟨m12, sh12, o12, c12⟩ := r12
      rcases hc12 with ⟨l12, hl12, A12⟩ | ⟨hl12, hne12, A12⟩ | ⟨hl12, A12⟩
      · simp only at hl12
        subst hl12
        refine ev_call (f := 24) (sp := spL) rfl (ih_row rfl (ih_row rfl (ih_hid (by first | exact clM _ | exact clC _ | exact clR _) rfl (ih_hid (by first | exact clM _ | exact clC _ | exact clR _) rfl rfl)))) A12 rfl (bh_row rfl (bh_row rfl (bh_hid (by first | exact clM _ | exact clC _ | exact clR _) rfl (bh_hid (by first | exact clM _ | exact clC _ | exact clR _) rfl (bh_hid (by first | exact clM _ | exact clC _ | exact clR _) rfl rfl))))) ?_
        simp only [List.cons_append, List.nil_append]
        refine ev_yes rfl (op_gtr (by simp; omega)) ?_
        refine ev_ask rfl (op_mod3 i) rfl ?_
        refine ev_ite rfl rfl (fun _ => ?_) (fun _ => ?_)
        ·
          refine ev_ask rfl (op_half i (by omega)) rfl ?_
          have hlt13 : i / 2 < zs.length := by omega
          have hg13 : (zs.map rowAct)[i / 2]? = some (rowAct zs[i / 2]) := by simp [hlt13]
          have hz13 := hz zs[i / 2] (List.getElem_mem hlt13)
          generalize zs[i / 2] = z13 at hg13 hz13
          obtain ⟨kd13, ky13, da13, nn13⟩ := z13
          refine ev_ask rfl (op_idx hg13 rfl) rfl ?_
          simp only [List.cons_append, List.nil_append]
          obtain ⟨s14, r14, R14, hc14⟩ := act_cases (s := sb) (r := ⟨mb, some (osb, capb), ob, cb⟩) (a := ⟨kd13, ky13, da13, nn13⟩) ⟨Rb, hz13.1, hz13.2⟩
          obtain ⟨m14, sh14, o14, c14⟩ := r14
          rcases hc14 with ⟨l14, hl14, A14⟩ | ⟨hl14, hne14, A14⟩ | ⟨hl14, A14⟩
          · simp only at hl14
            subst hl14
            refine ev_call (f := 24) (sp := spL) rfl (ih_row rfl (ih_row rfl (ih_hid (by first | exact clM _ | exact clC _ | exact clR _) rfl (ih_hid (by first | exact clM _ | exact clC _ | exact clR _) rfl (ih_hid (by first | exact clM _ | exact clC _ | exact clR _) rfl rfl))))) A14 rfl (bh_row rfl (bh_row rfl (bh_hid (by first | exact clM _ | exact clC _ | exact clR _) rfl (bh_hid (by first | exact clM _ | exact clC _ | exact clR _) rfl (bh_hid (by first | exact clM _ | exact clC _ | exact clR _) rfl (bh_hid (by first | exact clM _ | exact clC _ | exact clR _) rfl rfl)))))) ?_
            simp only [List.cons_append, List.nil_append]
            refine ev_no rfl (op_neq (by have h := R12.calls; simp only at h; simp [h])) ?_
            refine ev_ask rfl rfl rfl ?_
            refine ev_goto rfl (ih_hid (by first | exact clM _ | exact clC _ | exact clR _) rfl (ih_hid (by first | exact clM _ | exact clC _ | exact clR _) rfl (ih_hid (by first | exact clM _ | exact clC _ | exact clR _) rfl (ih_hid (by first | exact clM _ | exact clC _ | exact clR _) rfl (ih_hid (by first | exact clM _ | exact clC _ | exact clR _) rfl (ih_hid (by first | exact clM _ | exact clC _ | exact clR _) rfl rfl)))))) ?_
            rw [i64_inc i (by omega)]
            exact (ih hi h200).h3 s12 m12 l12 none o12 c12 s14 m14 l14 none o14 c14 R12 R14 (by omega)
          · simp only at hl14
            subst hl14
            refine ev_callN2 (f := 24) (sp := spL) rfl (ih_row rfl (ih_row rfl (ih_hid (by first | exact clM _ | exact clC _ | exact clR _) rfl (ih_hid (by first | exact clM _ | exact clC _ | exact clR _) rfl (ih_hid (by first | exact clM _ | exact clC _ | exact clR _) rfl rfl))))) A14 rfl (by first | rfl | exact bh_row rfl (bh_row rfl (bh_hid (clM _) rfl (bh_hid (clC _) rfl rfl))) | exact bh_row rfl (bh_row rfl (bh_hid (clM _) rfl (bh_hid (clC _) rfl (bh_hid (clR _) rfl rfl))))) ?_
            refine ev_call (f := 24) (sp := spL) rfl (ih_row rfl (ih_row rfl (ih_hid (by first | exact clM _ | exact clC _ | exact clR _) rfl (ih_hid (by first | exact clM _ | exact clC _ | exact clR _) rfl (ih_hid (by first | exact clM _ | exact clC _ | exact clR _) rfl rfl))))) A14 rfl (bh_row rfl (bh_row rfl (bh_hid (by first | exact clM _ | exact clC _ | exact clR _) rfl (bh_hid (by first | exact clM _ | exact clC _ | exact clR _) rfl (bh_hid (by first | exact clM _ | exact clC _ | exact clR _) rfl rfl))))) ?_
            simp only [List.cons_append, List.nil_append]
            refine ev_no rfl (op_neq (by have h := R12.calls; simp only at h; simp [h])) ?_
            refine ev_ask rfl rfl rfl ?_
            refine ev_goto rfl (ih_hid (by first | exact clM _ | exact clC _ | exact clR _) rfl (ih_hid (by first | exact clM _ | exact clC _ | exact clR _) rfl (ih_hid (by first | exact clM _ | exact clC _ | exact clR _) rfl (ih_hid (by first | exact clM _ | exact clC _ | exact clR _) rfl (ih_hid (by first | exact clM _ | exact clC _ | exact clR _) rfl rfl))))) ?_
            rw [i64_inc i (by omega)]
            exact (ih hi h200).h5 s12 m12 l12 none o12 c12 s14 m14 o14 c14 R12 R14 (by omega)
          · simp only at hl14
            subst hl14
            refine ev_callN2 (f := 24) (sp := spL) rfl (ih_row rfl (ih_row rfl (ih_hid (by first | exact clM _ | exact clC _ | exact clR _) rfl (ih_hid (by first | exact clM _ | exact clC _ | exact clR _) rfl (ih_hid (by first | exact clM _ | exact clC _ | exact clR _) rfl rfl))))) A14 rfl (by first | rfl | exact bh_row rfl (bh_row rfl (bh_hid (clM _) rfl (bh_hid (clC _) rfl rfl))) | exact bh_row rfl (bh_row rfl (bh_hid (clM _) rfl (bh_hid (clC _) rfl (bh_hid (clR _) rfl rfl))))) ?_
            refine ev_callN2 (f := 24) (sp := spL) rfl (ih_row rfl (ih_row rfl (ih_hid (by first | exact clM _ | exact clC _ | exact clR _) rfl (ih_hid (by first | exact clM _ | exact clC _ | exact clR _) rfl (ih_hid (by first | exact clM _ | exact clC _ | exact clR _) rfl rfl))))) A14 rfl (by first | rfl | exact bh_row rfl (bh_row rfl (bh_hid (clM _) rfl (bh_hid (clC _) rfl rfl))) | exact bh_row rfl (bh_row rfl (bh_hid (clM _) rfl (bh_hid (clC _) rfl (bh_hid (clR _) rfl rfl))))) ?_
            refine ev_call (f := 24) (sp := spL) rfl (ih_row rfl (ih_row rfl (ih_hid (by first | exact clM _ | exact clC _ | exact clR _) rfl (ih_hid (by first | exact clM _ | exact clC _ | exact clR _) rfl (ih_hid (by first | exact clM _ | exact clC _ | exact clR _) rfl rfl))))) A14 rfl (bh_row rfl (bh_row rfl (bh_hid (by first | exact clM _ | exact clC _ | exact clR _) rfl (bh_hid (by first | exact clM _ | exact clC _ | exact clR _) rfl (bh_hid (by first | exact clM _ | exact clC _ | exact clR _) rfl rfl))))) ?_
            simp only [List.cons_append, List.nil_append]
            refine ev_no rfl (op_neq (by have h := R12.calls; simp only at h; simp [h])) ?_
            refine ev_ask rfl rfl rfl ?_
            refine ev_goto rfl (ih_hid (by first | exact clM _ | exact clC _ | exact clR _) rfl (ih_hid (by first | exact clM _ | exact clC _ | exact clR _) rfl (ih_hid (by first | exact clM _ | exact clC _ | exact clR _) rfl (ih_hid (by first | exact clM _ | exact clC _ | exact clR _) rfl (ih_hid (by first | exact clM _ | exact clC _ | exact clR _) rfl (ih_hid (by first | exact clM _ | exact clC _ | exact clR _) rfl rfl)))))) ?_
            rw [i64_inc i (by omega)]
            exact (ih hi h200).h3 s12 m12 l12 none o12 c12 s14 m14 osb capb o14 c14 R12 R14 (by omega)
        ·
          refine ev_no rfl (op_neq (by have h := R12.calls; simp only at h; simp [h])) ?_
          refine ev_ask rfl rfl rfl ?_
          refine ev_goto rfl (ih_hid (by first | exact clM _ | exact clC _ | exact clR _) rfl (ih_hid (by first | exact clM _ | exact clC _ | exact clR _) rfl (ih_hid (by first | exact clM _ | exact clC _ | exact clR _) rfl (ih_hid (by first | exact clM _ | exact clC _ | exact clR _) rfl (ih_hid (by first | exact clM _ | exact clC _ | exact clR _) rfl (ih_hid (by first | exact clM _ | exact clC _ | exact clR _) rfl rfl)))))) ?_
          rw [i64_inc i (by omega)]
          exact (ih hi h200).h3 s12 m12 l12 none o12 c12 sb mb osb capb ob cb R12 Rb (by omega)
      · simp only at hl12
        subst hl12
        exact absurd rfl hne12
      · simp only at hl12
        subst hl12
        refine ev_callN2 (f := 24) (sp := spL) rfl (ih_row rfl (ih_row rfl (ih_hid (by first | exact clM _ | exact clC _ | exact clR _) rfl (ih_hid (by first | exact clM _ | exact clC _ | exact clR _) rfl rfl)))) A12 rfl (by first | rfl | exact bh_row rfl (bh_row rfl (bh_hid (clM _) rfl (bh_hid (clC _) rfl rfl))) | exact bh_row rfl (bh_row rfl (bh_hid (clM _) rfl (bh_hid (clC _) rfl (bh_hid (clR _) rfl rfl))))) ?_
        refine ev_call (f := 24) (sp := spL) rfl (ih_row rfl (ih_row rfl (ih_hid (by first | exact clM _ | exact clC _ | exact clR _) rfl (ih_hid (by first | exact clM _ | exact clC _ | exact clR _) rfl rfl)))) A12 rfl (bh_row rfl (bh_row rfl (bh_hid (by first | exact clM _ | exact clC _ | exact clR _) rfl (bh_hid (by first | exact clM _ | exact clC _ | exact clR _) rfl rfl)))) ?_
        simp only [List.cons_append, List.nil_append]
        refine ev_yes rfl (op_gtr (by simp; omega)) ?_
        refine ev_ask rfl (op_mod3 i) rfl ?_
        refine ev_ite rfl rfl (fun _ => ?_) (fun _ => ?_)
        ·
          refine ev_ask rfl (op_half i (by omega)) rfl ?_
          have hlt15 : i / 2 < zs.length := by omega
          have hg15 : (zs.map rowAct)[i / 2]? = some (rowAct zs[i / 2]) := by simp [hlt15]
          have hz15 := hz zs[i / 2] (List.getElem_mem hlt15)
          generalize zs[i / 2] = z15 at hg15 hz15
          obtain ⟨kd15, ky15, da15, nn15⟩ := z15
          refine ev_ask rfl (op_idx hg15 rfl) rfl ?_
          simp only [List.cons_append, List.nil_append]
          obtain ⟨s16, r16, R16, hc16⟩ := act_cases (s := sb) (r := ⟨mb, some (osb, capb), ob, cb⟩) (a := ⟨kd15, ky15, da15, nn15⟩) ⟨Rb, hz15.1, hz15.2⟩
          obtain ⟨m16, sh16, o16, c16⟩ := r16
          rcases hc16 with ⟨l16, hl16, A16⟩ | ⟨hl16, hne16, A16⟩ | ⟨hl16, A16⟩
          · simp only at hl16
            subst hl16
            refine ev_call (f := 24) (sp := spL) rfl (ih_row rfl (ih_row rfl (ih_hid (by first | exact clM _ | exact clC _ | exact clR _) rfl (ih_hid (by first | exact clM _ | exact clC _ | exact clR _) rfl (ih_hid (by first | exact clM _ | exact clC _ | exact clR _) rfl rfl))))) A16 rfl (bh_row rfl (bh_row rfl (bh_hid (by first | exact clM _ | exact clC _ | exact clR _) rfl (bh_hid (by first | exact clM _ | exact clC _ | exact clR _) rfl (bh_hid (by first | exact clM _ | exact clC _ | exact clR _) rfl (bh_hid (by first | exact clM _ | exact clC _ | exact clR _) rfl rfl)))))) ?_
            simp only [List.cons_append, List.nil_append]
            refine ev_no rfl (op_neq (by have h := R12.calls; simp only at h; simp [h])) ?_
            refine ev_ask rfl rfl rfl ?_
            refine ev_goto rfl (ih_hid (by first | exact clM _ | exact clC _ | exact clR _) rfl (ih_hid (by first | exact clM _ | exact clC _ | exact clR _) rfl (ih_hid (by first | exact clM _ | exact clC _ | exact clR _) rfl (ih_hid (by first | exact clM _ | exact clC _ | exact clR _) rfl (ih_hid (by first | exact clM _ | exact clC _ | exact clR _) rfl rfl))))) ?_
            rw [i64_inc i (by omega)]
            exact (ih hi h200).h2 s12 m12 o12 c12 s16 m16 l16 none o16 c16 R12 R16 (by omega)
          · simp only at hl16
            subst hl16
            refine ev_callN2 (f := 24) (sp := spL) rfl (ih_row rfl (ih_row rfl (ih_hid (by first | exact clM _ | exact clC _ | exact clR _) rfl (ih_hid (by first | exact clM _ | exact clC _ | exact clR _) rfl (ih_hid (by first | exact clM _ | exact clC _ | exact clR _) rfl rfl))))) A16 rfl (by first | rfl | exact bh_row rfl (bh_row rfl (bh_hid (clM _) rfl (bh_hid (clC _) rfl rfl))) | exact bh_row rfl (bh_row rfl (bh_hid (clM _) rfl (bh_hid (clC _) rfl (bh_hid (clR _) rfl rfl))))) ?_
            refine ev_call (f := 24) (sp := spL) rfl (ih_row rfl (ih_row rfl (ih_hid (by first | exact clM _ | exact clC _ | exact clR _) rfl (ih_hid (by first | exact clM _ | exact clC _ | exact clR _) rfl (ih_hid (by first | exact clM _ | exact clC _ | exact clR _) rfl rfl))))) A16 rfl (bh_row rfl (bh_row rfl (bh_hid (by first | exact clM _ | exact clC _ | exact clR _) rfl (bh_hid (by first | exact clM _ | exact clC _ | exact clR _) rfl (bh_hid (by first | exact clM _ | exact clC _ | exact clR _) rfl rfl))))) ?_
            simp only [List.cons_append, List.nil_append]
            refine ev_no rfl (op_neq (by have h := R12.calls; simp only at h; simp [h])) ?_
            refine ev_ask rfl rfl rfl ?_
            refine ev_goto rfl (ih_hid (by first | exact clM _ | exact clC _ | exact clR _) rfl (ih_hid (by first | exact clM _ | exact clC _ | exact clR _) rfl (ih_hid (by first | exact clM _ | exact clC _ | exact clR _) rfl (ih_hid (by first | exact clM _ | exact clC _ | exact clR _) rfl rfl)))) ?_
            rw [i64_inc i (by omega)]
            exact (ih hi h200).h4 s12 m12 o12 c12 s16 m16 o16 c16 R12 R16 (by omega)
          · simp only at hl16
            subst hl16
            refine ev_callN2 (f := 24) (sp := spL) rfl (ih_row rfl (ih_row rfl (ih_hid (by first | exact clM _ | exact clC _ | exact clR _) rfl (ih_hid (by first | exact clM _ | exact clC _ | exact clR _) rfl (ih_hid (by first | exact clM _ | exact clC _ | exact clR _) rfl rfl))))) A16 rfl (by first | rfl | exact bh_row rfl (bh_row rfl (bh_hid (clM _) rfl (bh_hid (clC _) rfl rfl))) | exact bh_row rfl (bh_row rfl (bh_hid (clM _) rfl (bh_hid (clC _) rfl (bh_hid (clR _) rfl rfl))))) ?_
            refine ev_callN2 (f := 24) (sp := spL) rfl (ih_row rfl (ih_row rfl (ih_hid (by first | exact clM _ | exact clC _ | exact clR _) rfl (ih_hid (by first | exact clM _ | exact clC _ | exact clR _) rfl (ih_hid (by first | exact clM _ | exact clC _ | exact clR _) rfl rfl))))) A16 rfl (by first | rfl | exact bh_row rfl (bh_row rfl (bh_hid (clM _) rfl (bh_hid (clC _) rfl rfl))) | exact bh_row rfl (bh_row rfl (bh_hid (clM _) rfl (bh_hid (clC _) rfl (bh_hid (clR _) rfl rfl))))) ?_
            refine ev_call (f := 24) (sp := spL) rfl (ih_row rfl (ih_row rfl (ih_hid (by first | exact clM _ | exact clC _ | exact clR _) rfl (ih_hid (by first | exact clM _ | exact clC _ | exact clR _) rfl (ih_hid (by first | exact clM _ | exact clC _ | exact clR _) rfl rfl))))) A16 rfl (bh_row rfl (bh_row rfl (bh_hid (by first | exact clM _ | exact clC _ | exact clR _) rfl (bh_hid (by first | exact clM _ | exact clC _ | exact clR _) rfl (bh_hid (by first | exact clM _ | exact clC _ | exact clR _) rfl rfl))))) ?_
            simp only [List.cons_append, List.nil_append]
            refine ev_no rfl (op_neq (by have h := R12.calls; simp only at h; simp [h])) ?_
            refine ev_ask rfl rfl rfl ?_
            refine ev_goto rfl (ih_hid (by first | exact clM _ | exact clC _ | exact clR _) rfl (ih_hid (by first | exact clM _ | exact clC _ | exact clR _) rfl (ih_hid (by first | exact clM _ | exact clC _ | exact clR _) rfl (ih_hid (by first | exact clM _ | exact clC _ | exact clR _) rfl (ih_hid (by first | exact clM _ | exact clC _ | exact clR _) rfl rfl))))) ?_
            rw [i64_inc i (by omega)]
            exact (ih hi h200).h2 s12 m12 o12 c12 s16 m16 osb capb o16 c16 R12 R16 (by omega)
        ·
          refine ev_no rfl (op_neq (by have h := R12.calls; simp only at h; simp [h])) ?_
          refine ev_ask rfl rfl rfl ?_
          refine ev_goto rfl (ih_hid (by first | exact clM _ | exact clC _ | exact clR _) rfl (ih_hid (by first | exact clM _ | exact clC _ | exact clR _) rfl (ih_hid (by first | exact clM _ | exact clC _ | exact clR _) rfl (ih_hid (by first | exact clM _ | exact clC _ | exact clR _) rfl (ih_hid (by first | exact clM _ | exact clC _ | exact clR _) rfl rfl))))) ?_
          rw [i64_inc i (by omega)]
          exact (ih hi h200).h2 s12 m12 o12 c12 sb mb osb capb ob cb R12 Rb (by omega)
    · refine ev_no rfl (op_lss (by simp; omega)) ?_
      simp only [List.cons_append, List.nil_append]
      by_cases hEb : osb = []
      ·
        refine ev_call (f := 18) (sp := spL) rfl (ih_row rfl (ih_hid (by first | exact clM _ | exact clC _ | exact clR _) rfl (ih_hid (by first | exact clM _ | exact clC _ | exact clR _) rfl rfl))) (all_rel_nil Ra rfl) rfl (bh_row rfl (bh_hid (by first | exact clM _ | exact clC _ | exact clR _) rfl (bh_hid (by first | exact clM _ | exact clC _ | exact clR _) rfl rfl))) ?_
        simp only [List.cons_append, List.nil_append]
        refine ev_pite (f := 25) (sp := spL) rfl rfl (same_of (a := none) (b := none) rfl (by simp [osL])) (fun _ => ?_) (fun hb => by cases hb)
        refine ev_call (f := 26) (sp := spL) rfl rfl (at26 (none) (by simp [osL])) rfl rfl ?_
        refine ev_call (f := 18) (sp := spL) rfl (ih_row rfl (ih_hid (by first | exact clM _ | exact clC _ | exact clR _) rfl (ih_hid (by first | exact clM _ | exact clC _ | exact clR _) rfl rfl))) (all_rel_nil Ra rfl) rfl (bh_row rfl (bh_hid (by first | exact clM _ | exact clC _ | exact clR _) rfl (bh_hid (by first | exact clM _ | exact clC _ | exact clR _) rfl rfl))) ?_
        simp only [List.cons_append, List.nil_append]
        refine ev_callN2 (f := 18) (sp := spL) rfl (ih_row rfl (ih_hid (by first | exact clM _ | exact clC _ | exact clR _) rfl (ih_hid (by first | exact clM _ | exact clC _ | exact clR _) rfl rfl))) (all_rel_nil Rb hEb) rfl (bh_row rfl (bh_hid (clM _) rfl (bh_hid (clC _) rfl rfl))) ?_
        refine ev_call (f := 18) (sp := spL) rfl (ih_row rfl (ih_hid (by first | exact clM _ | exact clC _ | exact clR _) rfl (ih_hid (by first | exact clM _ | exact clC _ | exact clR _) rfl rfl))) (all_rel_nil Rb hEb) rfl (bh_row rfl (bh_hid (by first | exact clM _ | exact clC _ | exact clR _) rfl (bh_hid (by first | exact clM _ | exact clC _ | exact clR _) rfl rfl))) ?_
        simp only [List.cons_append, List.nil_append]
        refine ev_pite (f := 25) (sp := spL) rfl (ih_hid (by first | exact clM _ | exact clC _ | exact clR _) rfl rfl) (same_of (a := none) (b := some (osb, capb)) hEb.symm (by simp [osL])) (fun _ => ?_) (fun hb => by cases hb)
        exact ev_ret rfl rfl
      ·
        refine ev_call (f := 18) (sp := spL) rfl (ih_row rfl (ih_hid (by first | exact clM _ | exact clC _ | exact clR _) rfl (ih_hid (by first | exact clM _ | exact clC _ | exact clR _) rfl rfl))) (all_rel_nil Ra rfl) rfl (bh_row rfl (bh_hid (by first | exact clM _ | exact clC _ | exact clR _) rfl (bh_hid (by first | exact clM _ | exact clC _ | exact clR _) rfl rfl))) ?_
        simp only [List.cons_append, List.nil_append]
        refine ev_pite (f := 25) (sp := spL) rfl rfl (same_of (a := none) (b := none) rfl (by simp [osL])) (fun _ => ?_) (fun hb => by cases hb)
        refine ev_call (f := 26) (sp := spL) rfl rfl (at26 (none) (by simp [osL])) rfl rfl ?_
        refine ev_call (f := 18) (sp := spL) rfl (ih_row rfl (ih_hid (by first | exact clM _ | exact clC _ | exact clR _) rfl (ih_hid (by first | exact clM _ | exact clC _ | exact clR _) rfl rfl))) (all_rel_nil Ra rfl) rfl (bh_row rfl (bh_hid (by first | exact clM _ | exact clC _ | exact clR _) rfl (bh_hid (by first | exact clM _ | exact clC _ | exact clR _) rfl rfl))) ?_
        simp only [List.cons_append, List.nil_append]
        refine ev_call (f := 18) (sp := spL) rfl (ih_row rfl (ih_hid (by first | exact clM _ | exact clC _ | exact clR _) rfl (ih_hid (by first | exact clM _ | exact clC _ | exact clR _) rfl rfl))) (all_rel_some Rb hEb) rfl (bh_row rfl (bh_hid (by first | exact clM _ | exact clC _ | exact clR _) rfl (bh_hid (by first | exact clM _ | exact clC _ | exact clR _) rfl (bh_hid (by first | exact clM _ | exact clC _ | exact clR _) rfl rfl)))) ?_
        simp only [List.cons_append, List.nil_append]
        refine ev_pite (f := 25) (sp := spL) rfl (ih_hid (by first | exact clM _ | exact clC _ | exact clR _) rfl (ih_hid (by first | exact clM _ | exact clC _ | exact clR _) rfl rfl)) (same_of (a := some (osb, none)) (b := some (osb, capb)) rfl (by have := rel_len Rb; simp only [osL] at this ⊢; omega)) (fun _ => ?_) (fun hb => by cases hb)
        exact ev_ret rfl rfl
  · refine ev_no rfl (op_lss (by simp; omega)) ?_
    simp only [List.cons_append, List.nil_append]
    by_cases hEb : osb = []
    ·
      refine ev_call (f := 18) (sp := spL) rfl (ih_row rfl (ih_hid (by first | exact clM _ | exact clC _ | exact clR _) rfl (ih_hid (by first | exact clM _ | exact clC _ | exact clR _) rfl rfl))) (all_rel_nil Ra rfl) rfl (bh_row rfl (bh_hid (by first | exact clM _ | exact clC _ | exact clR _) rfl (bh_hid (by first | exact clM _ | exact clC _ | exact clR _) rfl rfl))) ?_
      simp only [List.cons_append, List.nil_append]
      refine ev_pite (f := 25) (sp := spL) rfl rfl (same_of (a := none) (b := none) rfl (by simp [osL])) (fun _ => ?_) (fun hb => by cases hb)
      refine ev_call (f := 26) (sp := spL) rfl rfl (at26 (none) (by simp [osL])) rfl rfl ?_
      refine ev_call (f := 18) (sp := spL) rfl (ih_row rfl (ih_hid (by first | exact clM _ | exact clC _ | exact clR _) rfl (ih_hid (by first | exact clM _ | exact clC _ | exact clR _) rfl rfl))) (all_rel_nil Ra rfl) rfl (bh_row rfl (bh_hid (by first | exact clM _ | exact clC _ | exact clR _) rfl (bh_hid (by first | exact clM _ | exact clC _ | exact clR _) rfl rfl))) ?_
      simp only [List.cons_append, List.nil_append]
      refine ev_callN2 (f := 18) (sp := spL) rfl (ih_row rfl (ih_hid (by first | exact clM _ | exact clC _ | exact clR _) rfl (ih_hid (by first | exact clM _ | exact clC _ | exact clR _) rfl rfl))) (all_rel_nil Rb hEb) rfl (bh_row rfl (bh_hid (clM _) rfl (bh_hid (clC _) rfl rfl))) ?_
      refine ev_call (f := 18) (sp := spL) rfl (ih_row rfl (ih_hid (by first | exact clM _ | exact clC _ | exact clR _) rfl (ih_hid (by first | exact clM _ | exact clC _ | exact clR _) rfl rfl))) (all_rel_nil Rb hEb) rfl (bh_row rfl (bh_hid (by first | exact clM _ | exact clC _ | exact clR _) rfl (bh_hid (by first | exact clM _ | exact clC _ | exact clR _) rfl rfl))) ?_
      simp only [List.cons_append, List.nil_append]
      refine ev_pite (f := 25) (sp := spL) rfl (ih_hid (by first | exact clM _ | exact clC _ | exact clR _) rfl rfl) (same_of (a := none) (b := some (osb, capb)) hEb.symm (by simp [osL])) (fun _ => ?_) (fun hb => by cases hb)
      exact ev_ret rfl rfl
    ·
      refine ev_call (f := 18) (sp := spL) rfl (ih_row rfl (ih_hid (by first | exact clM _ | exact clC _ | exact clR _) rfl (ih_hid (by first | exact clM _ | exact clC _ | exact clR _) rfl rfl))) (all_rel_nil Ra rfl) rfl (bh_row rfl (bh_hid (by first | exact clM _ | exact clC _ | exact clR _) rfl (bh_hid (by first | exact clM _ | exact clC _ | exact clR _) rfl rfl))) ?_
      simp only [List.cons_append, List.nil_append]
      refine ev_pite (f := 25) (sp := spL) rfl rfl (same_of (a := none) (b := none) rfl (by simp [osL])) (fun _ => ?_) (fun hb => by cases hb)
      refine ev_call (f := 26) (sp := spL) rfl rfl (at26 (none) (by simp [osL])) rfl rfl ?_
      refine ev_call (f := 18) (sp := spL) rfl (ih_row rfl (ih_hid (by first | exact clM _ | exact clC _ | exact clR _) rfl (ih_hid (by first | exact clM _ | exact clC _ | exact clR _) rfl rfl))) (all_rel_nil Ra rfl) rfl (bh_row rfl (bh_hid (by first | exact clM _ | exact clC _ | exact clR _) rfl (bh_hid (by first | exact clM _ | exact clC _ | exact clR _) rfl rfl))) ?_
      simp only [List.cons_append, List.nil_append]
      refine ev_call (f := 18) (sp := spL) rfl (ih_row rfl (ih_hid (by first | exact clM _ | exact clC _ | exact clR _) rfl (ih_hid (by first | exact clM _ | exact clC _ | exact clR _) rfl rfl))) (all_rel_some Rb hEb) rfl (bh_row rfl (bh_hid (by first | exact clM _ | exact clC _ | exact clR _) rfl (bh_hid (by first | exact clM _ | exact clC _ | exact clR _) rfl (bh_hid (by first | exact clM _ | exact clC _ | exact clR _) rfl rfl)))) ?_
      simp only [List.cons_append, List.nil_append]
      refine ev_pite (f := 25) (sp := spL) rfl (ih_hid (by first | exact clM _ | exact clC _ | exact clR _) rfl (ih_hid (by first | exact clM _ | exact clC _ | exact clR _) rfl rfl)) (same_of (a := some (osb, none)) (b := some (osb, capb)) rfl (by have := rel_len Rb; simp only [osL] at this ⊢; omega)) (fun _ => ?_) (fun hb => by cases hb)
      exact ev_ret rfl rfl
set_option maxHeartbeats 8000000 in
theorem node3 (zs : List ActD) (hz : ∀ z ∈ zs, okAct z) (q i : Nat) (hile : i ≤ zs.length) (h200' : i ≤ 200) (ih : i < zs.length → i < 200 → AllN zs q (i + 1)) : ∀ (sa : StD) (ma : Int) (osa : List EntS) (capa : Option Nat) (oa ca : Int) (sb : StD) (mb : Int) (osb : List EntS) (capb : Option Nat) (ob cb : Int), Rel sa ⟨ma, some (osa, capa), oa, ca⟩ → Rel sb ⟨mb, some (osb, capb), ob, cb⟩ → 31 ≤ i → F8.next spL (q + 1) 3 [acA zs, .int .i64 ((i : Nat) : Int), .int .i64 sa.most, .int .i64 sa.calls, .int .i64 ma, .sl 0 0 osa.length 3 capa, .int .i64 oa, .int .i64 ca, .int .i64 sb.most, .int .i64 sb.calls, .int .i64 mb, .sl 0 0 osb.length 3 capb, .int .i64 ob, .int .i64 cb] [mapO sa.es, chO sa.owed, .row (rowO osa), mapO sb.es, chO sb.owed, .row (rowO osb)] = some (.bool true, []) := by
  intro sa ma osa capa oa ca sb mb osb capb ob cb Ra Rb hph
  refine next_succ rfl ?_
  refine ev_ask rfl rfl rfl ?_
  rcases Nat.lt_or_ge i zs.length with hi | hi
  · refine ev_yes rfl (op_lss (by simp; omega)) ?_
    rcases Nat.lt_or_ge i 200 with h200 | h200
    · refine ev_yes rfl (op_lss (by simp; omega)) ?_
      refine ev_no rfl (op_eql (by simp; omega)) ?_
      have hlt17 : i < zs.length := by omega
      have hg17 : (zs.map rowAct)[i]? = some (rowAct zs[i]) := by simp [hlt17]
      have hz17 := hz zs[i] (List.getElem_mem hlt17)
      generalize zs[i] = z17 at hg17 hz17
      obtain ⟨kd17, ky17, da17, nn17⟩ := z17
      refine ev_ask rfl (op_idx hg17 rfl) rfl ?_
      simp only [List.cons_append, List.nil_append]
      obtain ⟨s18, r18, R18, hc18⟩ := act_cases (s := sa) (r := ⟨ma, some (osa, capa), oa, ca⟩) (a := ⟨kd17, ky17, da17, nn17⟩) ⟨Ra, hz17.1, hz17.2⟩
      obtain ⟨m18, sh18, o18, c18⟩ := r18
      rcases hc18 with ⟨l18, hl18, A18⟩ | ⟨hl18, hne18, A18⟩ | ⟨hl18, A18⟩
      · simp only at hl18
        subst hl18
        refine ev_call (f := 24) (sp := spL) rfl (ih_row rfl (ih_row rfl (ih_hid (by first | exact clM _ | exact clC _ | exact clR _) rfl (ih_hid (by first | exact clM _ | exact clC _ | exact clR _) rfl (ih_hid (by first | exact clM _ | exact clC _ | exact clR _) rfl rfl))))) A18 rfl (bh_row rfl (bh_row rfl (bh_hid (by first | exact clM _ | exact clC _ | exact clR _) rfl (bh_hid (by first | exact clM _ | exact clC _ | exact clR _) rfl (bh_hid (by first | exact clM _ | exact clC _ | exact clR _) rfl (bh_hid (by first | exact clM _ | exact clC _ | exact clR _) rfl rfl)))))) ?_
        simp only [List.cons_append, List.nil_append]
        refine ev_yes rfl (op_gtr (by simp; omega)) ?_
        refine ev_ask rfl (op_mod3 i) rfl ?_
        refine ev_ite rfl rfl (fun _ => ?_) (fun _ => ?_)
        ·
          refine ev_ask rfl (op_half i (by omega)) rfl ?_
          have hlt19 : i / 2 < zs.length := by omega
          have hg19 : (zs.map rowAct)[i / 2]? = some (rowAct zs[i / 2]) := by simp [hlt19]
          have hz19 := hz zs[i / 2] (List.getElem_mem hlt19)
          generalize zs[i / 2] = z19 at hg19 hz19
          obtain ⟨kd19, ky19, da19, nn19⟩ := z19
          refine ev_ask rfl (op_idx hg19 rfl) rfl ?_
          simp only [List.cons_append, List.nil_append]
          obtain ⟨s20, r20, R20, hc20⟩ := act_cases (s := sb) (r := ⟨mb, some (osb, capb), ob, cb⟩) (a := ⟨kd19, ky19, da19, nn19⟩) ⟨Rb, hz19.1, hz19.2⟩
          obtain ⟨m20, sh20, o20, c20⟩ := r20
          rcases hc20 with ⟨l20, hl20, A20⟩ | ⟨hl20, hne20, A20⟩ | ⟨hl20, A20⟩
          · simp only at hl20
            subst hl20
            refine ev_call (f := 24) (sp := spL) rfl (ih_row rfl (ih_row rfl (ih_hid (by first | exact clM _ | exact clC _ | exact clR _) rfl (ih_hid (by first | exact clM _ | exact clC _ | exact clR _) rfl (ih_hid (by first | exact clM _ | exact clC _ | exact clR _) rfl rfl))))) A20 rfl (bh_row rfl (bh_row rfl (bh_hid (by first | exact clM _ | exact clC _ | exact clR _) rfl (bh_hid (by first | exact clM _ | exact clC _ | exact clR _) rfl (bh_hid (by first | exact clM _ | exact clC _ | exact clR _) rfl (bh_hid (by first | exact clM _ | exact clC _ | exact clR _) rfl rfl)))))) ?_
            simp only [List.cons_append, List.nil_append]
            refine ev_no rfl (op_neq (by have h := R18.calls; simp only at h; simp [h])) ?_
            refine ev_ask rfl rfl rfl ?_
            refine ev_goto rfl (ih_hid (by first | exact clM _ | exact clC _ | exact clR _) rfl (ih_hid (by first | exact clM _ | exact clC _ | exact clR _) rfl (ih_hid (by first | exact clM _ | exact clC _ | exact clR _) rfl (ih_hid (by first | exact clM _ | exact clC _ | exact clR _) rfl (ih_hid (by first | exact clM _ | exact clC _ | exact clR _) rfl (ih_hid (by first | exact clM _ | exact clC _ | exact clR _) rfl rfl)))))) ?_
            rw [i64_inc i (by omega)]
            exact (ih hi h200).h3 s18 m18 l18 none o18 c18 s20 m20 l20 none o20 c20 R18 R20 (by omega)
          · simp only at hl20
            subst hl20
            refine ev_callN2 (f := 24) (sp := spL) rfl (ih_row rfl (ih_row rfl (ih_hid (by first | exact clM _ | exact clC _ | exact clR _) rfl (ih_hid (by first | exact clM _ | exact clC _ | exact clR _) rfl (ih_hid (by first | exact clM _ | exact clC _ | exact clR _) rfl rfl))))) A20 rfl (by first | rfl | exact bh_row rfl (bh_row rfl (bh_hid (clM _) rfl (bh_hid (clC _) rfl rfl))) | exact bh_row rfl (bh_row rfl (bh_hid (clM _) rfl (bh_hid (clC _) rfl (bh_hid (clR _) rfl rfl))))) ?_
            refine ev_call (f := 24) (sp := spL) rfl (ih_row rfl (ih_row rfl (ih_hid (by first | exact clM _ | exact clC _ | exact clR _) rfl (ih_hid (by first | exact clM _ | exact clC _ | exact clR _) rfl (ih_hid (by first | exact clM _ | exact clC _ | exact clR _) rfl rfl))))) A20 rfl (bh_row rfl (bh_row rfl (bh_hid (by first | exact clM _ | exact clC _ | exact clR _) rfl (bh_hid (by first | exact clM _ | exact clC _ | exact clR _) rfl (bh_hid (by first | exact clM _ | exact clC _ | exact clR _) rfl rfl))))) ?_
            simp only [List.cons_append, List.nil_append]
            refine ev_no rfl (op_neq (by have h := R18.calls; simp only at h; simp [h])) ?_
            refine ev_ask rfl rfl rfl ?_
            refine ev_goto rfl (ih_hid (by first | exact clM _ | exact clC _ | exact clR _) rfl (ih_hid (by first | exact clM _ | exact clC _ | exact clR _) rfl (ih_hid (by first | exact clM _ | exact clC _ | exact clR _) rfl (ih_hid (by first | exact clM _ | exact clC _ | exact clR _) rfl (ih_hid (by first | exact clM _ | exact clC _ | exact clR _) rfl rfl))))) ?_
            rw [i64_inc i (by omega)]
            exact (ih hi h200).h5 s18 m18 l18 none o18 c18 s20 m20 o20 c20 R18 R20 (by omega)
          · simp only at hl20
            subst hl20
            refine ev_callN2 (f := 24) (sp := spL) rfl (ih_row rfl (ih_row rfl (ih_hid (by first | exact clM _ | exact clC _ | exact clR _) rfl (ih_hid (by first | exact clM _ | exact clC _ | exact clR _) rfl (ih_hid (by first | exact clM _ | exact clC _ | exact clR _) rfl rfl))))) A20 rfl (by first | rfl | exact bh_row rfl (bh_row rfl (bh_hid (clM _) rfl (bh_hid (clC _) rfl rfl))) | exact bh_row rfl (bh_row rfl (bh_hid (clM _) rfl (bh_hid (clC _) rfl (bh_hid (clR _) rfl rfl))))) ?_
            refine ev_callN2 (f := 24) (sp := spL) rfl (ih_row rfl (ih_row rfl (ih_hid (by first | exact clM _ | exact clC _ | exact clR _) rfl (ih_hid (by first | exact clM _ | exact clC _ | exact clR _) rfl (ih_hid (by first | exact clM _ | exact clC _ | exact clR _) rfl rfl))))) A20 rfl (by first | rfl | exact bh_row rfl (bh_row rfl (bh_hid (clM _) rfl (bh_hid (clC _) rfl rfl))) | exact bh_row rfl (bh_row rfl (bh_hid (clM _) rfl (bh_hid (clC _) rfl (bh_hid (clR _) rfl rfl))))) ?_
            refine ev_call (f := 24) (sp := spL) rfl (ih_row rfl (ih_row rfl (ih_hid (by first | exact clM _ | exact clC _ | exact clR _) rfl (ih_hid (by first | exact clM _ | exact clC _ | exact clR _) rfl (ih_hid (by first | exact clM _ | exact clC _ | exact clR _) rfl rfl))))) A20 rfl (bh_row rfl (bh_row rfl (bh_hid (by first | exact clM _ | exact clC _ | exact clR _) rfl (bh_hid (by first | exact clM _ | exact clC _ | exact clR _) rfl (bh_hid (by first | exact clM _ | exact clC _ | exact clR _) rfl rfl))))) ?_
            simp only [List.cons_append, List.nil_append]
            refine ev_no rfl (op_neq (by have h := R18.calls; simp only at h; simp [h])) ?_
            refine ev_ask rfl rfl rfl ?_
            refine ev_goto rfl (ih_hid (by first | exact clM _ | exact clC _ | exact clR _) rfl (ih_hid (by first | exact clM _ | exact clC _ | exact clR _) rfl (ih_hid (by first | exact clM _ | exact clC _ | exact clR _) rfl (ih_hid (by first | exact clM _ | exact clC _ | exact clR _) rfl (ih_hid (by first | exact clM _ | exact clC _ | exact clR _) rfl (ih_hid (by first | exact clM _ | exact clC _ | exact clR _) rfl rfl)))))) ?_
            rw [i64_inc i (by omega)]
            exact (ih hi h200).h3 s18 m18 l18 none o18 c18 s20 m20 osb capb o20 c20 R18 R20 (by omega)
        ·
          refine ev_no rfl (op_neq (by have h := R18.calls; simp only at h; simp [h])) ?_
          refine ev_ask rfl rfl rfl ?_
          refine ev_goto rfl (ih_hid (by first | exact clM _ | exact clC _ | exact clR _) rfl (ih_hid (by first | exact clM _ | exact clC _ | exact clR _) rfl (ih_hid (by first | exact clM _ | exact clC _ | exact clR _) rfl (ih_hid (by first | exact clM _ | exact clC _ | exact clR _) rfl (ih_hid (by first | exact clM _ | exact clC _ | exact clR _) rfl (ih_hid (by first | exact clM _ | exact clC _ | exact clR _) rfl rfl)))))) ?_
          rw [i64_inc i (by omega)]
          exact (ih hi h200).h3 s18 m18 l18 none o18 c18 sb mb osb capb ob cb R18 Rb (by omega)
      · simp only at hl18
        subst hl18
        refine ev_callN2 (f := 24) (sp := spL) rfl (ih_row rfl (ih_row rfl (ih_hid (by first | exact clM _ | exact clC _ | exact clR _) rfl (ih_hid (by first | exact clM _ | exact clC _ | exact clR _) rfl (ih_hid (by first | exact clM _ | exact clC _ | exact clR _) rfl rfl))))) A18 rfl (by first | rfl | exact bh_row rfl (bh_row rfl (bh_hid (clM _) rfl (bh_hid (clC _) rfl rfl))) | exact bh_row rfl (bh_row rfl (bh_hid (clM _) rfl (bh_hid (clC _) rfl (bh_hid (clR _) rfl rfl))))) ?_
        refine ev_call (f := 24) (sp := spL) rfl (ih_row rfl (ih_row rfl (ih_hid (by first | exact clM _ | exact clC _ | exact clR _) rfl (ih_hid (by first | exact clM _ | exact clC _ | exact clR _) rfl (ih_hid (by first | exact clM _ | exact clC _ | exact clR _) rfl rfl))))) A18 rfl (bh_row rfl (bh_row rfl (bh_hid (by first | exact clM _ | exact clC _ | exact clR _) rfl (bh_hid (by first | exact clM _ | exact clC _ | exact clR _) rfl (bh_hid (by first | exact clM _ | exact clC _ | exact clR _) rfl rfl))))) ?_
        simp only [List.cons_append, List.nil_append]
        refine ev_yes rfl (op_gtr (by simp; omega)) ?_
        refine ev_ask rfl (op_mod3 i) rfl ?_
        refine ev_ite rfl rfl (fun _ => ?_) (fun _ => ?_)
        ·
          refine ev_ask rfl (op_half i (by omega)) rfl ?_
          have hlt21 : i / 2 < zs.length := by omega
          have hg21 : (zs.map rowAct)[i / 2]? = some (rowAct zs[i / 2]) := by simp [hlt21]
          have hz21 := hz zs[i / 2] (List.getElem_mem hlt21)
          generalize zs[i / 2] = z21 at hg21 hz21
          obtain ⟨kd21, ky21, da21, nn21⟩ := z21
          refine ev_ask rfl (op_idx hg21 rfl) rfl ?_
          simp only [List.cons_append, List.nil_append]
          obtain ⟨s22, r22, R22, hc22⟩ := act_cases (s := sb) (r := ⟨mb, some (osb, capb), ob, cb⟩) (a := ⟨kd21, ky21, da21, nn21⟩) ⟨Rb, hz21.1, hz21.2⟩
          obtain ⟨m22, sh22, o22, c22⟩ := r22
          rcases hc22 with ⟨l22, hl22, A22⟩ | ⟨hl22, hne22, A22⟩ | ⟨hl22, A22⟩
          · simp only at hl22
            subst hl22
            refine ev_call (f := 24) (sp := spL) rfl (ih_row rfl (ih_row rfl (ih_hid (by first | exact clM _ | exact clC _ | exact clR _) rfl (ih_hid (by first | exact clM _ | exact clC _ | exact clR _) rfl (ih_hid (by first | exact clM _ | exact clC _ | exact clR _) rfl rfl))))) A22 rfl (bh_row rfl (bh_row rfl (bh_hid (by first | exact clM _ | exact clC _ | exact clR _) rfl (bh_hid (by first | exact clM _ | exact clC _ | exact clR _) rfl (bh_hid (by first | exact clM _ | exact clC _ | exact clR _) rfl (bh_hid (by first | exact clM _ | exact clC _ | exact clR _) rfl rfl)))))) ?_
            simp only [List.cons_append, List.nil_append]
            refine ev_no rfl (op_neq (by have h := R18.calls; simp only at h; simp [h])) ?_
            refine ev_ask rfl rfl rfl ?_
            refine ev_goto rfl (ih_hid (by first | exact clM _ | exact clC _ | exact clR _) rfl (ih_hid (by first | exact clM _ | exact clC _ | exact clR _) rfl (ih_hid (by first | exact clM _ | exact clC _ | exact clR _) rfl (ih_hid (by first | exact clM _ | exact clC _ | exact clR _) rfl (ih_hid (by first | exact clM _ | exact clC _ | exact clR _) rfl rfl))))) ?_
            rw [i64_inc i (by omega)]
            exact (ih hi h200).h2 s18 m18 o18 c18 s22 m22 l22 none o22 c22 R18 R22 (by omega)
          · simp only at hl22
            subst hl22
            refine ev_callN2 (f := 24) (sp := spL) rfl (ih_row rfl (ih_row rfl (ih_hid (by first | exact clM _ | exact clC _ | exact clR _) rfl (ih_hid (by first | exact clM _ | exact clC _ | exact clR _) rfl (ih_hid (by first | exact clM _ | exact clC _ | exact clR _) rfl rfl))))) A22 rfl (by first | rfl | exact bh_row rfl (bh_row rfl (bh_hid (clM _) rfl (bh_hid (clC _) rfl rfl))) | exact bh_row rfl (bh_row rfl (bh_hid (clM _) rfl (bh_hid (clC _) rfl (bh_hid (clR _) rfl rfl))))) ?_
            refine ev_call (f := 24) (sp := spL) rfl (ih_row rfl (ih_row rfl (ih_hid (by first | exact clM _ | exact clC _ | exact clR _) rfl (ih_hid (by first | exact clM _ | exact clC _ | exact clR _) rfl (ih_hid (by first | exact clM _ | exact clC _ | exact clR _) rfl rfl))))) A22 rfl (bh_row rfl (bh_row rfl (bh_hid (by first | exact clM _ | exact clC _ | exact clR _) rfl (bh_hid (by first | exact clM _ | exact clC _ | exact clR _) rfl (bh_hid (by first | exact clM _ | exact clC _ | exact clR _) rfl rfl))))) ?_
            simp only [List.cons_append, List.nil_append]
            refine ev_no rfl (op_neq (by have h := R18.calls; simp only at h; simp [h])) ?_
            refine ev_ask rfl rfl rfl ?_
            refine ev_goto rfl (ih_hid (by first | exact clM _ | exact clC _ | exact clR _) rfl (ih_hid (by first | exact clM _ | exact clC _ | exact clR _) rfl (ih_hid (by first | exact clM _ | exact clC _ | exact clR _) rfl (ih_hid (by first | exact clM _ | exact clC _ | exact clR _) rfl rfl)))) ?_
            rw [i64_inc i (by omega)]
            exact (ih hi h200).h4 s18 m18 o18 c18 s22 m22 o22 c22 R18 R22 (by omega)
          · simp only at hl22
            subst hl22
            refine ev_callN2 (f := 24) (sp := spL) rfl (ih_row rfl (ih_row rfl (ih_hid (by first | exact clM _ | exact clC _ | exact clR _) rfl (ih_hid (by first | exact clM _ | exact clC _ | exact clR _) rfl (ih_hid (by first | exact clM _ | exact clC _ | exact clR _) rfl rfl))))) A22 rfl (by first | rfl | exact bh_row rfl (bh_row rfl (bh_hid (clM _) rfl (bh_hid (clC _) rfl rfl))) | exact bh_row rfl (bh_row rfl (bh_hid (clM _) rfl (bh_hid (clC _) rfl (bh_hid (clR _) rfl rfl))))) ?_
            refine ev_callN2 (f := 24) (sp := spL) rfl (ih_row rfl (ih_row rfl (ih_hid (by first | exact clM _ | exact clC _ | exact clR _) rfl (ih_hid (by first | exact clM _ | exact clC _ | exact clR _) rfl (ih_hid (by first | exact clM _ | exact clC _ | exact clR _) rfl rfl))))) A22 rfl (by first | rfl | exact bh_row rfl (bh_row rfl (bh_hid (clM _) rfl (bh_hid (clC _) rfl rfl))) | exact bh_row rfl (bh_row rfl (bh_hid (clM _) rfl (bh_hid (clC _) rfl (bh_hid (clR _) rfl rfl))))) ?_
            refine ev_call (f := 24) (sp := spL) rfl (ih_row rfl (ih_row rfl (ih_hid (by first | exact clM _ | exact clC _ | exact clR _) rfl (ih_hid (by first | exact clM _ | exact clC _ | exact clR _) rfl (ih_hid (by first | exact clM _ | exact clC _ | exact clR _) rfl rfl))))) A22 rfl (bh_row rfl (bh_row rfl (bh_hid (by first | exact clM _ | exact clC _ | exact clR _) rfl (bh_hid (by first | exact clM _ | exact clC _ | exact clR _) rfl (bh_hid (by first | exact clM _ | exact clC _ | exact clR _) rfl rfl))))) ?_
            simp only [List.cons_append, List.nil_append]
            refine ev_no rfl (op_neq (by have h := R18.calls; simp only at h; simp [h])) ?_
            refine ev_ask rfl rfl rfl ?_
            refine ev_goto rfl (ih_hid (by first | exact clM _ | exact clC _ | exact clR _) rfl (ih_hid (by first | exact clM _ | exact clC _ | exact clR _) rfl (ih_hid (by first | exact clM _ | exact clC _ | exact clR _) rfl (ih_hid (by first | exact clM _ | exact clC _ | exact clR _) rfl (ih_hid (by first | exact clM _ | exact clC _ | exact clR _) rfl rfl))))) ?_
            rw [i64_inc i (by omega)]
            exact (ih hi h200).h2 s18 m18 o18 c18 s22 m22 osb capb o22 c22 R18 R22 (by omega)
        ·
          refine ev_no rfl (op_neq (by have h := R18.calls; simp only at h; simp [h])) ?_
          refine ev_ask rfl rfl rfl ?_
          refine ev_goto rfl (ih_hid (by first | exact clM _ | exact clC _ | exact clR _) rfl (ih_hid (by first | exact clM _ | exact clC _ | exact clR _) rfl (ih_hid (by first | exact clM _ | exact clC _ | exact clR _) rfl (ih_hid (by first | exact clM _ | exact clC _ | exact clR _) rfl (ih_hid (by first | exact clM _ | exact clC _ | exact clR _) rfl rfl))))) ?_
          rw [i64_inc i (by omega)]
          exact (ih hi h200).h2 s18 m18 o18 c18 sb mb osb capb ob cb R18 Rb (by omega)
      · simp only at hl18
        subst hl18
        refine ev_callN2 (f := 24) (sp := spL) rfl (ih_row rfl (ih_row rfl (ih_hid (by first | exact clM _ | exact clC _ | exact clR _) rfl (ih_hid (by first | exact clM _ | exact clC _ | exact clR _) rfl (ih_hid (by first | exact clM _ | exact clC _ | exact clR _) rfl rfl))))) A18 rfl (by first | rfl | exact bh_row rfl (bh_row rfl (bh_hid (clM _) rfl (bh_hid (clC _) rfl rfl))) | exact bh_row rfl (bh_row rfl (bh_hid (clM _) rfl (bh_hid (clC _) rfl (bh_hid (clR _) rfl rfl))))) ?_
        refine ev_callN2 (f := 24) (sp := spL) rfl (ih_row rfl (ih_row rfl (ih_hid (by first | exact clM _ | exact clC _ | exact clR _) rfl (ih_hid (by first | exact clM _ | exact clC _ | exact clR _) rfl (ih_hid (by first | exact clM _ | exact clC _ | exact clR _) rfl rfl))))) A18 rfl (by first | rfl | exact bh_row rfl (bh_row rfl (bh_hid (clM _) rfl (bh_hid (clC _) rfl rfl))) | exact bh_row rfl (bh_row rfl (bh_hid (clM _) rfl (bh_hid (clC _) rfl (bh_hid (clR _) rfl rfl))))) ?_
        refine ev_call (f := 24) (sp := spL) rfl (ih_row rfl (ih_row rfl (ih_hid (by first | exact clM _ | exact clC _ | exact clR _) rfl (ih_hid (by first | exact clM _ | exact clC _ | exact clR _) rfl (ih_hid (by first | exact clM _ | exact clC _ | exact clR _) rfl rfl))))) A18 rfl (bh_row rfl (bh_row rfl (bh_hid (by first | exact clM _ | exact clC _ | exact clR _) rfl (bh_hid (by first | exact clM _ | exact clC _ | exact clR _) rfl (bh_hid (by first | exact clM _ | exact clC _ | exact clR _) rfl rfl))))) ?_
        simp only [List.cons_append, List.nil_append]
        refine ev_yes rfl (op_gtr (by simp; omega)) ?_
        refine ev_ask rfl (op_mod3 i) rfl ?_
        refine ev_ite rfl rfl (fun _ => ?_) (fun _ => ?_)
        ·
          refine ev_ask rfl (op_half i (by omega)) rfl ?_
          have hlt23 : i / 2 < zs.length := by omega
          have hg23 : (zs.map rowAct)[i / 2]? = some (rowAct zs[i / 2]) := by simp [hlt23]
          have hz23 := hz zs[i / 2] (List.getElem_mem hlt23)
          generalize zs[i / 2] = z23 at hg23 hz23
          obtain ⟨kd23, ky23, da23, nn23⟩ := z23
          refine ev_ask rfl (op_idx hg23 rfl) rfl ?_
          simp only [List.cons_append, List.nil_append]
          obtain ⟨s24, r24, R24, hc24⟩ := act_cases (s := sb) (r := ⟨mb, some (osb, capb), ob, cb⟩) (a := ⟨kd23, ky23, da23, nn23⟩) ⟨Rb, hz23.1, hz23.2⟩
          obtain ⟨m24, sh24, o24, c24⟩ := r24
          rcases hc24 with ⟨l24, hl24, A24⟩ | ⟨hl24, hne24, A24⟩ | ⟨hl24, A24⟩
          · simp only at hl24
            subst hl24
            refine ev_call (f := 24) (sp := spL) rfl (ih_row rfl (ih_row rfl (ih_hid (by first | exact clM _ | exact clC _ | exact clR _) rfl (ih_hid (by first | exact clM _ | exact clC _ | exact clR _) rfl (ih_hid (by first | exact clM _ | exact clC _ | exact clR _) rfl rfl))))) A24 rfl (bh_row rfl (bh_row rfl (bh_hid (by first | exact clM _ | exact clC _ | exact clR _) rfl (bh_hid (by first | exact clM _ | exact clC _ | exact clR _) rfl (bh_hid (by first | exact clM _ | exact clC _ | exact clR _) rfl (bh_hid (by first | exact clM _ | exact clC _ | exact clR _) rfl rfl)))))) ?_
            simp only [List.cons_append, List.nil_append]
            refine ev_no rfl (op_neq (by have h := R18.calls; simp only at h; simp [h])) ?_
            refine ev_ask rfl rfl rfl ?_
            refine ev_goto rfl (ih_hid (by first | exact clM _ | exact clC _ | exact clR _) rfl (ih_hid (by first | exact clM _ | exact clC _ | exact clR _) rfl (ih_hid (by first | exact clM _ | exact clC _ | exact clR _) rfl (ih_hid (by first | exact clM _ | exact clC _ | exact clR _) rfl (ih_hid (by first | exact clM _ | exact clC _ | exact clR _) rfl (ih_hid (by first | exact clM _ | exact clC _ | exact clR _) rfl rfl)))))) ?_
            rw [i64_inc i (by omega)]
            exact (ih hi h200).h3 s18 m18 osa capa o18 c18 s24 m24 l24 none o24 c24 R18 R24 (by omega)
          · simp only at hl24
            subst hl24
            refine ev_callN2 (f := 24) (sp := spL) rfl (ih_row rfl (ih_row rfl (ih_hid (by first | exact clM _ | exact clC _ | exact clR _) rfl (ih_hid (by first | exact clM _ | exact clC _ | exact clR _) rfl (ih_hid (by first | exact clM _ | exact clC _ | exact clR _) rfl rfl))))) A24 rfl (by first | rfl | exact bh_row rfl (bh_row rfl (bh_hid (clM _) rfl (bh_hid (clC _) rfl rfl))) | exact bh_row rfl (bh_row rfl (bh_hid (clM _) rfl (bh_hid (clC _) rfl (bh_hid (clR _) rfl rfl))))) ?_
            refine ev_call (f := 24) (sp := spL) rfl (ih_row rfl (ih_row rfl (ih_hid (by first | exact clM _ | exact clC _ | exact clR _) rfl (ih_hid (by first | exact clM _ | exact clC _ | exact clR _) rfl (ih_hid (by first | exact clM _ | exact clC _ | exact clR _) rfl rfl))))) A24 rfl (bh_row rfl (bh_row rfl (bh_hid (by first | exact clM _ | exact clC _ | exact clR _) rfl (bh_hid (by first | exact clM _ | exact clC _ | exact clR _) rfl (bh_hid (by first | exact clM _ | exact clC _ | exact clR _) rfl rfl))))) ?_
            simp only [List.cons_append, List.nil_append]
            refine ev_no rfl (op_neq (by have h := R18.calls; simp only at h; simp [h])) ?_
            refine ev_ask rfl rfl rfl ?_
            refine ev_goto rfl (ih_hid (by first | exact clM _ | exact clC _ | exact clR _) rfl (ih_hid (by first | exact clM _ | exact clC _ | exact clR _) rfl (ih_hid (by first | exact clM _ | exact clC _ | exact clR _) rfl (ih_hid (by first | exact clM _ | exact clC _ | exact clR _) rfl (ih_hid (by first | exact clM _ | exact clC _ | exact clR _) rfl rfl))))) ?_
            rw [i64_inc i (by omega)]
            exact (ih hi h200).h5 s18 m18 osa capa o18 c18 s24 m24 o24 c24 R18 R24 (by omega)
          · simp only at hl24
            subst hl24
            refine ev_callN2 (f := 24) (sp := spL) rfl (ih_row rfl (ih_row rfl (ih_hid (by first | exact clM _ | exact clC _ | exact clR _) rfl (ih_hid (by first | exact clM _ | exact clC _ | exact clR _) rfl (ih_hid (by first | exact clM _ | exact clC _ | exact clR _) rfl rfl))))) A24 rfl (by first | rfl | exact bh_row rfl (bh_row rfl (bh_hid (clM _) rfl (bh_hid (clC _) rfl rfl))) | exact bh_row rfl (bh_row rfl (bh_hid (clM _) rfl (bh_hid (clC _) rfl (bh_hid (clR _) rfl rfl))))) ?_
            refine ev_callN2 (f := 24) (sp := spL) rfl (ih_row rfl (ih_row rfl (ih_hid (by first | exact clM _ | exact clC _ | exact clR _) rfl (ih_hid (by first | exact clM _ | exact clC _ | exact clR _) rfl (ih_hid (by first | exact clM _ | exact clC _ | exact clR _) rfl rfl))))) A24 rfl (by first | rfl | exact bh_row rfl (bh_row rfl (bh_hid (clM _) rfl (bh_hid (clC _) rfl rfl))) | exact bh_row rfl (bh_row rfl (bh_hid (clM _) rfl (bh_hid (clC _) rfl (bh_hid (clR _) rfl rfl))))) ?_
            refine ev_call (f := 24) (sp := spL) rfl (ih_row rfl (ih_row rfl (ih_hid (by first | exact clM _ | exact clC _ | exact clR _) rfl (ih_hid (by first | exact clM _ | exact clC _ | exact clR _) rfl (ih_hid (by first | exact clM _ | exact clC _ | exact clR _) rfl rfl))))) A24 rfl (bh_row rfl (bh_row rfl (bh_hid (by first | exact clM _ | exact clC _ | exact clR _) rfl (bh_hid (by first | exact clM _ | exact clC _ | exact clR _) rfl (bh_hid (by first | exact clM _ | exact clC _ | exact clR _) rfl rfl))))) ?_
            simp only [List.cons_append, List.nil_append]
            refine ev_no rfl (op_neq (by have h := R18.calls; simp only at h; simp [h])) ?_
            refine ev_ask rfl rfl rfl ?_
            refine ev_goto rfl (ih_hid (by first | exact clM _ | exact clC _ | exact clR _) rfl (ih_hid (by first | exact clM _ | exact clC _ | exact clR _) rfl (ih_hid (by first | exact clM _ | exact clC _ | exact clR _) rfl (ih_hid (by first | exact clM _ | exact clC _ | exact clR _) rfl (ih_hid (by first | exact clM _ | exact clC _ | exact clR _) rfl (ih_hid (by first | exact clM _ | exact clC _ | exact clR _) rfl rfl)))))) ?_
            rw [i64_inc i (by omega)]
            exact (ih hi h200).h3 s18 m18 osa capa o18 c18 s24 m24 osb capb o24 c24 R18 R24 (by omega)
        ·
          refine ev_no rfl (op_neq (by have h := R18.calls; simp only at h; simp [h])) ?_
          refine ev_ask rfl rfl rfl ?_
          refine ev_goto rfl (ih_hid (by first | exact clM _ | exact clC _ | exact clR _) rfl (ih_hid (by first | exact clM _ | exact clC _ | exact clR _) rfl (ih_hid (by first | exact clM _ | exact clC _ | exact clR _) rfl (ih_hid (by first | exact clM _ | exact clC _ | exact clR _) rfl (ih_hid (by first | exact clM _ | exact clC _ | exact clR _) rfl (ih_hid (by first | exact clM _ | exact clC _ | exact clR _) rfl rfl)))))) ?_
          rw [i64_inc i (by omega)]
          exact (ih hi h200).h3 s18 m18 osa capa o18 c18 sb mb osb capb ob cb R18 Rb (by omega)
    · refine ev_no rfl (op_lss (by simp; omega)) ?_
      simp only [List.cons_append, List.nil_append]
      by_cases hEa : osa = []
      ·
        by_cases hEb : osb = []
        ·
          refine ev_callN2 (f := 18) (sp := spL) rfl (ih_row rfl (ih_hid (by first | exact clM _ | exact clC _ | exact clR _) rfl (ih_hid (by first | exact clM _ | exact clC _ | exact clR _) rfl rfl))) (all_rel_nil Ra hEa) rfl (bh_row rfl (bh_hid (clM _) rfl (bh_hid (clC _) rfl rfl))) ?_
          refine ev_call (f := 18) (sp := spL) rfl (ih_row rfl (ih_hid (by first | exact clM _ | exact clC _ | exact clR _) rfl (ih_hid (by first | exact clM _ | exact clC _ | exact clR _) rfl rfl))) (all_rel_nil Ra hEa) rfl (bh_row rfl (bh_hid (by first | exact clM _ | exact clC _ | exact clR _) rfl (bh_hid (by first | exact clM _ | exact clC _ | exact clR _) rfl rfl))) ?_
          simp only [List.cons_append, List.nil_append]
          refine ev_pite (f := 25) (sp := spL) rfl (ih_hid (by first | exact clM _ | exact clC _ | exact clR _) rfl rfl) (same_of (a := none) (b := some (osa, capa)) hEa.symm (by simp [osL])) (fun _ => ?_) (fun hb => by cases hb)
          refine ev_call (f := 26) (sp := spL) rfl rfl (at26 (none) (by simp [osL])) rfl rfl ?_
          refine ev_callN2 (f := 18) (sp := spL) rfl (ih_row rfl (ih_hid (by first | exact clM _ | exact clC _ | exact clR _) rfl (ih_hid (by first | exact clM _ | exact clC _ | exact clR _) rfl rfl))) (all_rel_nil Ra hEa) rfl (bh_row rfl (bh_hid (clM _) rfl (bh_hid (clC _) rfl rfl))) ?_
          refine ev_call (f := 18) (sp := spL) rfl (ih_row rfl (ih_hid (by first | exact clM _ | exact clC _ | exact clR _) rfl (ih_hid (by first | exact clM _ | exact clC _ | exact clR _) rfl rfl))) (all_rel_nil Ra hEa) rfl (bh_row rfl (bh_hid (by first | exact clM _ | exact clC _ | exact clR _) rfl (bh_hid (by first | exact clM _ | exact clC _ | exact clR _) rfl rfl))) ?_
          simp only [List.cons_append, List.nil_append]
          refine ev_callN2 (f := 18) (sp := spL) rfl (ih_row rfl (ih_hid (by first | exact clM _ | exact clC _ | exact clR _) rfl (ih_hid (by first | exact clM _ | exact clC _ | exact clR _) rfl rfl))) (all_rel_nil Rb hEb) rfl (bh_row rfl (bh_hid (clM _) rfl (bh_hid (clC _) rfl rfl))) ?_
          refine ev_call (f := 18) (sp := spL) rfl (ih_row rfl (ih_hid (by first | exact clM _ | exact clC _ | exact clR _) rfl (ih_hid (by first | exact clM _ | exact clC _ | exact clR _) rfl rfl))) (all_rel_nil Rb hEb) rfl (bh_row rfl (bh_hid (by first | exact clM _ | exact clC _ | exact clR _) rfl (bh_hid (by first | exact clM _ | exact clC _ | exact clR _) rfl rfl))) ?_
          simp only [List.cons_append, List.nil_append]
          refine ev_pite (f := 25) (sp := spL) rfl (ih_hid (by first | exact clM _ | exact clC _ | exact clR _) rfl rfl) (same_of (a := none) (b := some (osb, capb)) hEb.symm (by simp [osL])) (fun _ => ?_) (fun hb => by cases hb)
          exact ev_ret rfl rfl
        ·
          refine ev_callN2 (f := 18) (sp := spL) rfl (ih_row rfl (ih_hid (by first | exact clM _ | exact clC _ | exact clR _) rfl (ih_hid (by first | exact clM _ | exact clC _ | exact clR _) rfl rfl))) (all_rel_nil Ra hEa) rfl (bh_row rfl (bh_hid (clM _) rfl (bh_hid (clC _) rfl rfl))) ?_
          refine ev_call (f := 18) (sp := spL) rfl (ih_row rfl (ih_hid (by first | exact clM _ | exact clC _ | exact clR _) rfl (ih_hid (by first | exact clM _ | exact clC _ | exact clR _) rfl rfl))) (all_rel_nil Ra hEa) rfl (bh_row rfl (bh_hid (by first | exact clM _ | exact clC _ | exact clR _) rfl (bh_hid (by first | exact clM _ | exact clC _ | exact clR _) rfl rfl))) ?_
          simp only [List.cons_append, List.nil_append]
          refine ev_pite (f := 25) (sp := spL) rfl (ih_hid (by first | exact clM _ | exact clC _ | exact clR _) rfl rfl) (same_of (a := none) (b := some (osa, capa)) hEa.symm (by simp [osL])) (fun _ => ?_) (fun hb => by cases hb)
          refine ev_call (f := 26) (sp := spL) rfl rfl (at26 (none) (by simp [osL])) rfl rfl ?_
          refine ev_callN2 (f := 18) (sp := spL) rfl (ih_row rfl (ih_hid (by first | exact clM _ | exact clC _ | exact clR _) rfl (ih_hid (by first | exact clM _ | exact clC _ | exact clR _) rfl rfl))) (all_rel_nil Ra hEa) rfl (bh_row rfl (bh_hid (clM _) rfl (bh_hid (clC _) rfl rfl))) ?_
          refine ev_call (f := 18) (sp := spL) rfl (ih_row rfl (ih_hid (by first | exact clM _ | exact clC _ | exact clR _) rfl (ih_hid (by first | exact clM _ | exact clC _ | exact clR _) rfl rfl))) (all_rel_nil Ra hEa) rfl (bh_row rfl (bh_hid (by first | exact clM _ | exact clC _ | exact clR _) rfl (bh_hid (by first | exact clM _ | exact clC _ | exact clR _) rfl rfl))) ?_
          simp only [List.cons_append, List.nil_append]
          refine ev_call (f := 18) (sp := spL) rfl (ih_row rfl (ih_hid (by first | exact clM _ | exact clC _ | exact clR _) rfl (ih_hid (by first | exact clM _ | exact clC _ | exact clR _) rfl rfl))) (all_rel_some Rb hEb) rfl (bh_row rfl (bh_hid (by first | exact clM _ | exact clC _ | exact clR _) rfl (bh_hid (by first | exact clM _ | exact clC _ | exact clR _) rfl (bh_hid (by first | exact clM _ | exact clC _ | exact clR _) rfl rfl)))) ?_
          simp only [List.cons_append, List.nil_append]
          refine ev_pite (f := 25) (sp := spL) rfl (ih_hid (by first | exact clM _ | exact clC _ | exact clR _) rfl (ih_hid (by first | exact clM _ | exact clC _ | exact clR _) rfl rfl)) (same_of (a := some (osb, none)) (b := some (osb, capb)) rfl (by have := rel_len Rb; simp only [osL] at this ⊢; omega)) (fun _ => ?_) (fun hb => by cases hb)
          exact ev_ret rfl rfl
      ·
        by_cases hEb : osb = []
        ·
          refine ev_call (f := 18) (sp := spL) rfl (ih_row rfl (ih_hid (by first | exact clM _ | exact clC _ | exact clR _) rfl (ih_hid (by first | exact clM _ | exact clC _ | exact clR _) rfl rfl))) (all_rel_some Ra hEa) rfl (bh_row rfl (bh_hid (by first | exact clM _ | exact clC _ | exact clR _) rfl (bh_hid (by first | exact clM _ | exact clC _ | exact clR _) rfl (bh_hid (by first | exact clM _ | exact clC _ | exact clR _) rfl rfl)))) ?_
          simp only [List.cons_append, List.nil_append]
          refine ev_pite (f := 25) (sp := spL) rfl (ih_hid (by first | exact clM _ | exact clC _ | exact clR _) rfl (ih_hid (by first | exact clM _ | exact clC _ | exact clR _) rfl rfl)) (same_of (a := some (osa, none)) (b := some (osa, capa)) rfl (by have := rel_len Ra; simp only [osL] at this ⊢; omega)) (fun _ => ?_) (fun hb => by cases hb)
          refine ev_call (f := 26) (sp := spL) rfl (ih_hid (by first | exact clM _ | exact clC _ | exact clR _) rfl rfl) (at26 (some (osa, none)) (by have := rel_len Ra; simp only [osL] at this ⊢; omega)) rfl (bh_hid (by first | exact clM _ | exact clC _ | exact clR _) rfl rfl) ?_
          simp only [List.cons_append, List.nil_append]
          refine ev_call (f := 18) (sp := spL) rfl (ih_row rfl (ih_hid (by first | exact clM _ | exact clC _ | exact clR _) rfl (ih_hid (by first | exact clM _ | exact clC _ | exact clR _) rfl rfl))) (all_rel_some Ra hEa) rfl (bh_row rfl (bh_hid (by first | exact clM _ | exact clC _ | exact clR _) rfl (bh_hid (by first | exact clM _ | exact clC _ | exact clR _) rfl (bh_hid (by first | exact clM _ | exact clC _ | exact clR _) rfl rfl)))) ?_
          simp only [List.cons_append, List.nil_append]
          refine ev_pite (f := 25) (sp := spL) rfl (ih_hid (by first | exact clM _ | exact clC _ | exact clR _) rfl (ih_hid (by first | exact clM _ | exact clC _ | exact clR _) rfl rfl)) (same_of (a := some (osa, none)) (b := some (osa, capa)) rfl (by have := rel_len Ra; simp only [osL] at this ⊢; omega)) (fun _ => ?_) (fun hb => by cases hb)
          refine ev_callN2 (f := 18) (sp := spL) rfl (ih_row rfl (ih_hid (by first | exact clM _ | exact clC _ | exact clR _) rfl (ih_hid (by first | exact clM _ | exact clC _ | exact clR _) rfl rfl))) (all_rel_nil Rb hEb) rfl (bh_row rfl (bh_hid (clM _) rfl (bh_hid (clC _) rfl rfl))) ?_
          refine ev_call (f := 18) (sp := spL) rfl (ih_row rfl (ih_hid (by first | exact clM _ | exact clC _ | exact clR _) rfl (ih_hid (by first | exact clM _ | exact clC _ | exact clR _) rfl rfl))) (all_rel_nil Rb hEb) rfl (bh_row rfl (bh_hid (by first | exact clM _ | exact clC _ | exact clR _) rfl (bh_hid (by first | exact clM _ | exact clC _ | exact clR _) rfl rfl))) ?_
          simp only [List.cons_append, List.nil_append]
          refine ev_pite (f := 25) (sp := spL) rfl (ih_hid (by first | exact clM _ | exact clC _ | exact clR _) rfl rfl) (same_of (a := none) (b := some (osb, capb)) hEb.symm (by simp [osL])) (fun _ => ?_) (fun hb => by cases hb)
          exact ev_ret rfl rfl
        ·
          refine ev_call (f := 18) (sp := spL) rfl (ih_row rfl (ih_hid (by first | exact clM _ | exact clC _ | exact clR _) rfl (ih_hid (by first | exact clM _ | exact clC _ | exact clR _) rfl rfl))) (all_rel_some Ra hEa) rfl (bh_row rfl (bh_hid (by first | exact clM _ | exact clC _ | exact clR _) rfl (bh_hid (by first | exact clM _ | exact clC _ | exact clR _) rfl (bh_hid (by first | exact clM _ | exact clC _ | exact clR _) rfl rfl)))) ?_
          simp only [List.cons_append, List.nil_append]
          refine ev_pite (f := 25) (sp := spL) rfl (ih_hid (by first | exact clM _ | exact clC _ | exact clR _) rfl (ih_hid (by first | exact clM _ | exact clC _ | exact clR _) rfl rfl)) (same_of (a := some (osa, none)) (b := some (osa, capa)) rfl (by have := rel_len Ra; simp only [osL] at this ⊢; omega)) (fun _ => ?_) (fun hb => by cases hb)
          refine ev_call (f := 26) (sp := spL) rfl (ih_hid (by first | exact clM _ | exact clC _ | exact clR _) rfl rfl) (at26 (some (osa, none)) (by have := rel_len Ra; simp only [osL] at this ⊢; omega)) rfl (bh_hid (by first | exact clM _ | exact clC _ | exact clR _) rfl rfl) ?_
          simp only [List.cons_append, List.nil_append]
          refine ev_call (f := 18) (sp := spL) rfl (ih_row rfl (ih_hid (by first | exact clM _ | exact clC _ | exact clR _) rfl (ih_hid (by first | exact clM _ | exact clC _ | exact clR _) rfl rfl))) (all_rel_some Ra hEa) rfl (bh_row rfl (bh_hid (by first | exact clM _ | exact clC _ | exact clR _) rfl (bh_hid (by first | exact clM _ | exact clC _ | exact clR _) rfl (bh_hid (by first | exact clM _ | exact clC _ | exact clR _) rfl rfl)))) ?_
          simp only [List.cons_append, List.nil_append]
          refine ev_pite (f := 25) (sp := spL) rfl (ih_hid (by first | exact clM _ | exact clC _ | exact clR _) rfl (ih_hid (by first | exact clM _ | exact clC _ | exact clR _) rfl rfl)) (same_of (a := some (osa, none)) (b := some (osa, capa)) rfl (by have := rel_len Ra; simp only [osL] at this ⊢; omega)) (fun _ => ?_) (fun hb => by cases hb)
          refine ev_call (f := 18) (sp := spL) rfl (ih_row rfl (ih_hid (by first | exact clM _ | exact clC _ | exact clR _) rfl (ih_hid (by first | exact clM _ | exact clC _ | exact clR _) rfl rfl))) (all_rel_some Rb hEb) rfl (bh_row rfl (bh_hid (by first | exact clM _ | exact clC _ | exact clR _) rfl (bh_hid (by first | exact clM _ | exact clC _ | exact clR _) rfl (bh_hid (by first | exact clM _ | exact clC _ | exact clR _) rfl rfl)))) ?_
          simp only [List.cons_append, List.nil_append]
          refine ev_pite (f := 25) (sp := spL) rfl (ih_hid (by first | exact clM _ | exact clC _ | exact clR _) rfl (ih_hid (by first | exact clM _ | exact clC _ | exact clR _) rfl rfl)) (same_of (a := some (osb, none)) (b := some (osb, capb)) rfl (by have := rel_len Rb; simp only [osL] at this ⊢; omega)) (fun _ => ?_) (fun hb => by cases hb)
          exact ev_ret rfl rfl
  · refine ev_no rfl (op_lss (by simp; omega)) ?_
    simp only [List.cons_append, List.nil_append]
    by_cases hEa : osa = []
    ·
      by_cases hEb : osb = []
      ·
        refine ev_callN2 (f := 18) (sp := spL) rfl (ih_row rfl (ih_hid (by first | exact clM _ | exact clC _ | exact clR _) rfl (ih_hid (by first | exact clM _ | exact clC _ | exact clR _) rfl rfl))) (all_rel_nil Ra hEa) rfl (bh_row rfl (bh_hid (clM _) rfl (bh_hid (clC _) rfl rfl))) ?_
        refine ev_call (f := 18) (sp := spL) rfl (ih_row rfl (ih_hid (by first | exact clM _ | exact clC _ | exact clR _) rfl (ih_hid (by first | exact clM _ | exact clC _ | exact clR _) rfl rfl))) (all_rel_nil Ra hEa) rfl (bh_row rfl (bh_hid (by first | exact clM _ | exact clC _ | exact clR _) rfl (bh_hid (by first | exact clM _ | exact clC _ | exact clR _) rfl rfl))) ?_
        simp only [List.cons_append, List.nil_append]
        refine ev_pite (f := 25) (sp := spL) rfl (ih_hid (by first | exact clM _ | exact clC _ | exact clR _) rfl rfl) (same_of (a := none) (b := some (osa, capa)) hEa.symm (by simp [osL])) (fun _ => ?_) (fun hb => by cases hb)
        refine ev_call (f := 26) (sp := spL) rfl rfl (at26 (none) (by simp [osL])) rfl rfl ?_
        refine ev_callN2 (f := 18) (sp := spL) rfl (ih_row rfl (ih_hid (by first | exact clM _ | exact clC _ | exact clR _) rfl (ih_hid (by first | exact clM _ | exact clC _ | exact clR _) rfl rfl))) (all_rel_nil Ra hEa) rfl (bh_row rfl (bh_hid (clM _) rfl (bh_hid (clC _) rfl rfl))) ?_
        refine ev_call (f := 18) (sp := spL) rfl (ih_row rfl (ih_hid (by first | exact clM _ | exact clC _ | exact clR _) rfl (ih_hid (by first | exact clM _ | exact clC _ | exact clR _) rfl rfl))) (all_rel_nil Ra hEa) rfl (bh_row rfl (bh_hid (by first | exact clM _ | exact clC _ | exact clR _) rfl (bh_hid (by first | exact clM _ | exact clC _ | exact clR _) rfl rfl))) ?_
        simp only [List.cons_append, List.nil_append]
        refine ev_callN2 (f := 18) (sp := spL) rfl (ih_row rfl (ih_hid (by first | exact clM _ | exact clC _ | exact clR _) rfl (ih_hid (by first | exact clM _ | exact clC _ | exact clR _) rfl rfl))) (all_rel_nil Rb hEb) rfl (bh_row rfl (bh_hid (clM _) rfl (bh_hid (clC _) rfl rfl))) ?_
        refine ev_call (f := 18) (sp := spL) rfl (ih_row rfl (ih_hid (by first | exact clM _ | exact clC _ | exact clR _) rfl (ih_hid (by first | exact clM _ | exact clC _ | exact clR _) rfl rfl))) (all_rel_nil Rb hEb) rfl (bh_row rfl (bh_hid (by first | exact clM _ | exact clC _ | exact clR _) rfl (bh_hid (by first | exact clM _ | exact clC _ | exact clR _) rfl rfl))) ?_
        simp only [List.cons_append, List.nil_append]
        refine ev_pite (f := 25) (sp := spL) rfl (ih_hid (by first | exact clM _ | exact clC _ | exact clR _) rfl rfl) (same_of (a := none) (b := some (osb, capb)) hEb.symm (by simp [osL])) (fun _ => ?_) (fun hb => by cases hb)
        exact ev_ret rfl rfl
      ·
        refine ev_callN2 (f := 18) (sp := spL) rfl (ih_row rfl (ih_hid (by first | exact clM _ | exact clC _ | exact clR _) rfl (ih_hid (by first | exact clM _ | exact clC _ | exact clR _) rfl rfl))) (all_rel_nil Ra hEa) rfl (bh_row rfl (bh_hid (clM _) rfl (bh_hid (clC _) rfl rfl))) ?_
        refine ev_call (f := 18) (sp := spL) rfl (ih_row rfl (ih_hid (by first | exact clM _ | exact clC _ | exact clR _) rfl (ih_hid (by first | exact clM _ | exact clC _ | exact clR _) rfl rfl))) (all_rel_nil Ra hEa) rfl (bh_row rfl (bh_hid (by first | exact clM _ | exact clC _ | exact clR _) rfl (bh_hid (by first | exact clM _ | exact clC _ | exact clR _) rfl rfl))) ?_
        simp only [List.cons_append, List.nil_append]
        refine ev_pite (f := 25) (sp := spL) rfl (ih_hid (by first | exact clM _ | exact clC _ | exact clR _) rfl rfl) (same_of (a := none) (b := some (osa, capa)) hEa.symm (by simp [osL])) (fun _ => ?_) (fun hb => by cases hb)
        refine ev_call (f := 26) (sp := spL) rfl rfl (at26 (none) (by simp [osL])) rfl rfl ?_
        refine ev_callN2 (f := 18) (sp := spL) rfl (ih_row rfl (ih_hid (by first | exact clM _ | exact clC _ | exact clR _) rfl (ih_hid (by first | exact clM _ | exact clC _ | exact clR _) rfl rfl))) (all_rel_nil Ra hEa) rfl (bh_row rfl (bh_hid (clM _) rfl (bh_hid (clC _) rfl rfl))) ?_
        refine ev_call (f := 18) (sp := spL) rfl (ih_row rfl (ih_hid (by first | exact clM _ | exact clC _ | exact clR _) rfl (ih_hid (by first | exact clM _ | exact clC _ | exact clR _) rfl rfl))) (all_rel_nil Ra hEa) rfl (bh_row rfl (bh_hid (by first | exact clM _ | exact clC _ | exact clR _) rfl (bh_hid (by first | exact clM _ | exact clC _ | exact clR _) rfl rfl))) ?_
        simp only [List.cons_append, List.nil_append]
        refine ev_call (f := 18) (sp := spL) rfl (ih_row rfl (ih_hid (by first | exact clM _ | exact clC _ | exact clR _) rfl (ih_hid (by first | exact clM _ | exact clC _ | exact clR _) rfl rfl))) (all_rel_some Rb hEb) rfl (bh_row rfl (bh_hid (by first | exact clM _ | exact clC _ | exact clR _) rfl (bh_hid (by first | exact clM _ | exact clC _ | exact clR _) rfl (bh_hid (by first | exact clM _ | exact clC _ | exact clR _) rfl rfl)))) ?_
        simp only [List.cons_append, List.nil_append]
        refine ev_pite (f := 25) (sp := spL) rfl (ih_hid (by first | exact clM _ | exact clC _ | exact clR _) rfl (ih_hid (by first | exact clM _ | exact clC _ | exact clR _) rfl rfl)) (same_of (a := some (osb, none)) (b := some (osb, capb)) rfl (by have := rel_len Rb; simp only [osL] at this ⊢; omega)) (fun _ => ?_) (fun hb => by cases hb)
        exact ev_ret rfl rfl
    ·
      by_cases hEb : osb = []
      ·
        refine ev_call (f := 18) (sp := spL) rfl (ih_row rfl (ih_hid (by first | exact clM _ | exact clC _ | exact clR _) rfl (ih_hid (by first | exact clM _ | exact clC _ | exact clR _) rfl rfl))) (all_rel_some Ra hEa) rfl (bh_row rfl (bh_hid (by first | exact clM _ | exact clC _ | exact clR _) rfl (bh_hid (by first | exact clM _ | exact clC _ | exact clR _) rfl (bh_hid (by first | exact clM _ | exact clC _ | exact clR _) rfl rfl)))) ?_
        simp only [List.cons_append, List.nil_append]
        refine ev_pite (f := 25) (sp := spL) rfl (ih_hid (by first | exact clM _ | exact clC _ | exact clR _) rfl (ih_hid (by first | exact clM _ | exact clC _ | exact clR _) rfl rfl)) (same_of (a := some (osa, none)) (b := some (osa, capa)) rfl (by have := rel_len Ra; simp only [osL] at this ⊢; omega)) (fun _ => ?_) (fun hb => by cases hb)
        refine ev_call (f := 26) (sp := spL) rfl (ih_hid (by first | exact clM _ | exact clC _ | exact clR _) rfl rfl) (at26 (some (osa, none)) (by have := rel_len Ra; simp only [osL] at this ⊢; omega)) rfl (bh_hid (by first | exact clM _ | exact clC _ | exact clR _) rfl rfl) ?_
        simp only [List.cons_append, List.nil_append]
        refine ev_call (f := 18) (sp := spL) rfl (ih_row rfl (ih_hid (by first | exact clM _ | exact clC _ | exact clR _) rfl (ih_hid (by first | exact clM _ | exact clC _ | exact clR _) rfl rfl))) (all_rel_some Ra hEa) rfl (bh_row rfl (bh_hid (by first | exact clM _ | exact clC _ | exact clR _) rfl (bh_hid (by first | exact clM _ | exact clC _ | exact clR _) rfl (bh_hid (by first | exact clM _ | exact clC _ | exact clR _) rfl rfl)))) ?_
        simp only [List.cons_append, List.nil_append]
        refine ev_pite (f := 25) (sp := spL) rfl (ih_hid (by first | exact clM _ | exact clC _ | exact clR _) rfl (ih_hid (by first | exact clM _ | exact clC _ | exact clR _) rfl rfl)) (same_of (a := some (osa, none)) (b := some (osa, capa)) rfl (by have := rel_len Ra; simp only [osL] at this ⊢; omega)) (fun _ => ?_) (fun hb => by cases hb)
        refine ev_callN2 (f := 18) (sp := spL) rfl (ih_row rfl (ih_hid (by first | exact clM _ | exact clC _ | exact clR _) rfl (ih_hid (by first | exact clM _ | exact clC _ | exact clR _) rfl rfl))) (all_rel_nil Rb hEb) rfl (bh_row rfl (bh_hid (clM _) rfl (bh_hid (clC _) rfl rfl))) ?_
        refine ev_call (f := 18) (sp := spL) rfl (ih_row rfl (ih_hid (by first | exact clM _ | exact clC _ | exact clR _) rfl (ih_hid (by first | exact clM _ | exact clC _ | exact clR _) rfl rfl))) (all_rel_nil Rb hEb) rfl (bh_row rfl (bh_hid (by first | exact clM _ | exact clC _ | exact clR _) rfl (bh_hid (by first | exact clM _ | exact clC _ | exact clR _) rfl rfl))) ?_
        simp only [List.cons_append, List.nil_append]
        refine ev_pite (f := 25) (sp := spL) rfl (ih_hid (by first | exact clM _ | exact clC _ | exact clR _) rfl rfl) (same_of (a := none) (b := some (osb, capb)) hEb.symm (by simp [osL])) (fun _ => ?_) (fun hb => by cases hb)
        exact ev_ret rfl rfl
      ·
        refine ev_call (f := 18) (sp := spL) rfl (ih_row rfl (ih_hid (by first | exact clM _ | exact clC _ | exact clR _) rfl (ih_hid (by first | exact clM _ | exact clC _ | exact clR _) rfl rfl))) (all_rel_some Ra hEa) rfl (bh_row rfl (bh_hid (by first | exact clM _ | exact clC _ | exact clR _) rfl (bh_hid (by first | exact clM _ | exact clC _ | exact clR _) rfl (bh_hid (by first | exact clM _ | exact clC _ | exact clR _) rfl rfl)))) ?_
        simp only [List.cons_append, List.nil_append]
        refine ev_pite (f := 25) (sp := spL) rfl (ih_hid (by first | exact clM _ | exact clC _ | exact clR _) rfl (ih_hid (by first | exact clM _ | exact clC _ | exact clR _) rfl rfl)) (same_of (a := some (osa, none)) (b := some (osa, capa)) rfl (by have := rel_len Ra; simp only [osL] at this ⊢; omega)) (fun _ => ?_) (fun hb => by cases hb)
        refine ev_call (f := 26) (sp := spL) rfl (ih_hid (by first | exact clM _ | exact clC _ | exact clR _) rfl rfl) (at26 (some (osa, none)) (by have := rel_len Ra; simp only [osL] at this ⊢; omega)) rfl (bh_hid (by first | exact clM _ | exact clC _ | exact clR _) rfl rfl) ?_
        simp only [List.cons_append, List.nil_append]
        refine ev_call (f := 18) (sp := spL) rfl (ih_row rfl (ih_hid (by first | exact clM _ | exact clC _ | exact clR _) rfl (ih_hid (by first | exact clM _ | exact clC _ | exact clR _) rfl rfl))) (all_rel_some Ra hEa) rfl (bh_row rfl (bh_hid (by first | exact clM _ | exact clC _ | exact clR _) rfl (bh_hid (by first | exact clM _ | exact clC _ | exact clR _) rfl (bh_hid (by first | exact clM _ | exact clC _ | exact clR _) rfl rfl)))) ?_
        simp only [List.cons_append, List.nil_append]
        refine ev_pite (f := 25) (sp := spL) rfl (ih_hid (by first | exact clM _ | exact clC _ | exact clR _) rfl (ih_hid (by first | exact clM _ | exact clC _ | exact clR _) rfl rfl)) (same_of (a := some (osa, none)) (b := some (osa, capa)) rfl (by have := rel_len Ra; simp only [osL] at this ⊢; omega)) (fun _ => ?_) (fun hb => by cases hb)
        refine ev_call (f := 18) (sp := spL) rfl (ih_row rfl (ih_hid (by first | exact clM _ | exact clC _ | exact clR _) rfl (ih_hid (by first | exact clM _ | exact clC _ | exact clR _) rfl rfl))) (all_rel_some Rb hEb) rfl (bh_row rfl (bh_hid (by first | exact clM _ | exact clC _ | exact clR _) rfl (bh_hid (by first | exact clM _ | exact clC _ | exact clR _) rfl (bh_hid (by first | exact clM _ | exact clC _ | exact clR _) rfl rfl)))) ?_
        simp only [List.cons_append, List.nil_append]
        refine ev_pite (f := 25) (sp := spL) rfl (ih_hid (by first | exact clM _ | exact clC _ | exact clR _) rfl (ih_hid (by first | exact clM _ | exact clC _ | exact clR _) rfl rfl)) (same_of (a := some (osb, none)) (b := some (osb, capb)) rfl (by have := rel_len Rb; simp only [osL] at this ⊢; omega)) (fun _ => ?_) (fun hb => by cases hb)
        exact ev_ret rfl rfl
set_option maxHeartbeats 8000000 in
theorem node4 (zs : List ActD) (hz : ∀ z ∈ zs, okAct z) (q i : Nat) (hile : i ≤ zs.length) (h200' : i ≤ 200) (ih : i < zs.length → i < 200 → AllN zs q (i + 1)) : ∀ (sa : StD) (ma : Int) (oa ca : Int) (sb : StD) (mb : Int) (ob cb : Int), Rel sa ⟨ma, none, oa, ca⟩ → Rel sb ⟨mb, none, ob, cb⟩ → 31 ≤ i → F8.next spL (q + 1) 4 [acA zs, .int .i64 ((i : Nat) : Int), .int .i64 sa.most, .int .i64 sa.calls, .int .i64 ma, .int .i64 oa, .int .i64 ca, .int .i64 sb.most, .int .i64 sb.calls, .int .i64 mb, .int .i64 ob, .int .i64 cb] [mapO sa.es, chO sa.owed, mapO sb.es, chO sb.owed] = some (.bool true, []) := by
  intro sa ma oa ca sb mb ob cb Ra Rb hph
  refine next_succ rfl ?_
  refine ev_ask rfl rfl rfl ?_
  rcases Nat.lt_or_ge i zs.length with hi | hi
  · refine ev_yes rfl (op_lss (by simp; omega)) ?_
    rcases Nat.lt_or_ge i 200 with h200 | h200
    · refine ev_yes rfl (op_lss (by simp; omega)) ?_
      refine ev_no rfl (op_eql (by simp; omega)) ?_
      have hlt25 : i < zs.length := by omega
      have hg25 : (zs.map rowAct)[i]? = some (rowAct zs[i]) := by simp [hlt25]
      have hz25 := hz zs[i] (List.getElem_mem hlt25)
      generalize zs[i] = z25 at hg25 hz25
      obtain ⟨kd25, ky25, da25, nn25⟩ := z25
      refine ev_ask rfl (op_idx hg25 rfl) rfl ?_
      simp only [List.cons_append, List.nil_append]
      obtain ⟨s26, r26, R26, hc26⟩ := act_cases (s := sa) (r := ⟨ma, none, oa, ca⟩) (a := ⟨kd25, ky25, da25, nn25⟩) ⟨Ra, hz25.1, hz25.2⟩
      obtain ⟨m26, sh26, o26, c26⟩ := r26
      rcases hc26 with ⟨l26, hl26, A26⟩ | ⟨hl26, hne26, A26⟩ | ⟨hl26, A26⟩
      · simp only at hl26
        subst hl26
        refine ev_call (f := 24) (sp := spL) rfl (ih_row rfl (ih_row rfl (ih_hid (by first | exact clM _ | exact clC _ | exact clR _) rfl (ih_hid (by first | exact clM _ | exact clC _ | exact clR _) rfl rfl)))) A26 rfl (bh_row rfl (bh_row rfl (bh_hid (by first | exact clM _ | exact clC _ | exact clR _) rfl (bh_hid (by first | exact clM _ | exact clC _ | exact clR _) rfl (bh_hid (by first | exact clM _ | exact clC _ | exact clR _) rfl rfl))))) ?_
        simp only [List.cons_append, List.nil_append]
        refine ev_yes rfl (op_gtr (by simp; omega)) ?_
        refine ev_ask rfl (op_mod3 i) rfl ?_
        refine ev_ite rfl rfl (fun _ => ?_) (fun _ => ?_)
        ·
          refine ev_ask rfl (op_half i (by omega)) rfl ?_
          have hlt27 : i / 2 < zs.length := by omega
          have hg27 : (zs.map rowAct)[i / 2]? = some (rowAct zs[i / 2]) := by simp [hlt27]
          have hz27 := hz zs[i / 2] (List.getElem_mem hlt27)
          generalize zs[i / 2] = z27 at hg27 hz27
          obtain ⟨kd27, ky27, da27, nn27⟩ := z27
          refine ev_ask rfl (op_idx hg27 rfl) rfl ?_
          simp only [List.cons_append, List.nil_append]
          obtain ⟨s28, r28, R28, hc28⟩ := act_cases (s := sb) (r := ⟨mb, none, ob, cb⟩) (a := ⟨kd27, ky27, da27, nn27⟩) ⟨Rb, hz27.1, hz27.2⟩
          obtain ⟨m28, sh28, o28, c28⟩ := r28
          rcases hc28 with ⟨l28, hl28, A28⟩ | ⟨hl28, hne28, A28⟩ | ⟨hl28, A28⟩
          · simp only at hl28
            subst hl28
            refine ev_call (f := 24) (sp := spL) rfl (ih_row rfl (ih_row rfl (ih_hid (by first | exact clM _ | exact clC _ | exact clR _) rfl (ih_hid (by first | exact clM _ | exact clC _ | exact clR _) rfl rfl)))) A28 rfl (bh_row rfl (bh_row rfl (bh_hid (by first | exact clM _ | exact clC _ | exact clR _) rfl (bh_hid (by first | exact clM _ | exact clC _ | exact clR _) rfl (bh_hid (by first | exact clM _ | exact clC _ | exact clR _) rfl rfl))))) ?_
            simp only [List.cons_append, List.nil_append]
            refine ev_no rfl (op_neq (by have h := R26.calls; simp only at h; simp [h])) ?_
            refine ev_ask rfl rfl rfl ?_
            refine ev_goto rfl (ih_hid (by first | exact clM _ | exact clC _ | exact clR _) rfl (ih_hid (by first | exact clM _ | exact clC _ | exact clR _) rfl (ih_hid (by first | exact clM _ | exact clC _ | exact clR _) rfl (ih_hid (by first | exact clM _ | exact clC _ | exact clR _) rfl (ih_hid (by first | exact clM _ | exact clC _ | exact clR _) rfl (ih_hid (by first | exact clM _ | exact clC _ | exact clR _) rfl rfl)))))) ?_
            rw [i64_inc i (by omega)]
            exact (ih hi h200).h3 s26 m26 l26 none o26 c26 s28 m28 l28 none o28 c28 R26 R28 (by omega)
          · simp only at hl28
            subst hl28
            exact absurd rfl hne28
          · simp only at hl28
            subst hl28
            refine ev_callN2 (f := 24) (sp := spL) rfl (ih_row rfl (ih_row rfl (ih_hid (by first | exact clM _ | exact clC _ | exact clR _) rfl (ih_hid (by first | exact clM _ | exact clC _ | exact clR _) rfl rfl)))) A28 rfl (by first | rfl | exact bh_row rfl (bh_row rfl (bh_hid (clM _) rfl (bh_hid (clC _) rfl rfl))) | exact bh_row rfl (bh_row rfl (bh_hid (clM _) rfl (bh_hid (clC _) rfl (bh_hid (clR _) rfl rfl))))) ?_
            refine ev_call (f := 24) (sp := spL) rfl (ih_row rfl (ih_row rfl (ih_hid (by first | exact clM _ | exact clC _ | exact clR _) rfl (ih_hid (by first | exact clM _ | exact clC _ | exact clR _) rfl rfl)))) A28 rfl (bh_row rfl (bh_row rfl (bh_hid (by first | exact clM _ | exact clC _ | exact clR _) rfl (bh_hid (by first | exact clM _ | exact clC _ | exact clR _) rfl rfl)))) ?_
            simp only [List.cons_append, List.nil_append]
            refine ev_no rfl (op_neq (by have h := R26.calls; simp only at h; simp [h])) ?_
            refine ev_ask rfl rfl rfl ?_
            refine ev_goto rfl (ih_hid (by first | exact clM _ | exact clC _ | exact clR _) rfl (ih_hid (by first | exact clM _ | exact clC _ | exact clR _) rfl (ih_hid (by first | exact clM _ | exact clC _ | exact clR _) rfl (ih_hid (by first | exact clM _ | exact clC _ | exact clR _) rfl (ih_hid (by first | exact clM _ | exact clC _ | exact clR _) rfl rfl))))) ?_
            rw [i64_inc i (by omega)]
            exact (ih hi h200).h5 s26 m26 l26 none o26 c26 s28 m28 o28 c28 R26 R28 (by omega)
        ·
          refine ev_no rfl (op_neq (by have h := R26.calls; simp only at h; simp [h])) ?_
          refine ev_ask rfl rfl rfl ?_
          refine ev_goto rfl (ih_hid (by first | exact clM _ | exact clC _ | exact clR _) rfl (ih_hid (by first | exact clM _ | exact clC _ | exact clR _) rfl (ih_hid (by first | exact clM _ | exact clC _ | exact clR _) rfl (ih_hid (by first | exact clM _ | exact clC _ | exact clR _) rfl (ih_hid (by first | exact clM _ | exact clC _ | exact clR _) rfl rfl))))) ?_
          rw [i64_inc i (by omega)]
          exact (ih hi h200).h5 s26 m26 l26 none o26 c26 sb mb ob cb R26 Rb (by omega)
      · simp only at hl26
        subst hl26
        exact absurd rfl hne26
      · simp only at hl26
        subst hl26
        refine ev_callN2 (f := 24) (sp := spL) rfl (ih_row rfl (ih_row rfl (ih_hid (by first | exact clM _ | exact clC _ | exact clR _) rfl (ih_hid (by first | exact clM _ | exact clC _ | exact clR _) rfl rfl)))) A26 rfl (by first | rfl | exact bh_row rfl (bh_row rfl (bh_hid (clM _) rfl (bh_hid (clC _) rfl rfl))) | exact bh_row rfl (bh_row rfl (bh_hid (clM _) rfl (bh_hid (clC _) rfl (bh_hid (clR _) rfl rfl))))) ?_
        refine ev_call (f := 24) (sp := spL) rfl (ih_row rfl (ih_row rfl (ih_hid (by first | exact clM _ | exact clC _ | exact clR _) rfl (ih_hid (by first | exact clM _ | exact clC _ | exact clR _) rfl rfl)))) A26 rfl (bh_row rfl (bh_row rfl (bh_hid (by first | exact clM _ | exact clC _ | exact clR _) rfl (bh_hid (by first | exact clM _ | exact clC _ | exact clR _) rfl rfl)))) ?_
        simp only [List.cons_append, List.nil_append]
        refine ev_yes rfl (op_gtr (by simp; omega)) ?_
        refine ev_ask rfl (op_mod3 i) rfl ?_
        refine ev_ite rfl rfl (fun _ => ?_) (fun _ => ?_)
        ·
          refine ev_ask rfl (op_half i (by omega)) rfl ?_
          have hlt29 : i / 2 < zs.length := by omega
          have hg29 : (zs.map rowAct)[i / 2]? = some (rowAct zs[i / 2]) := by simp [hlt29]
          have hz29 := hz zs[i / 2] (List.getElem_mem hlt29)
          generalize zs[i / 2] = z29 at hg29 hz29
          obtain ⟨kd29, ky29, da29, nn29⟩ := z29
          refine ev_ask rfl (op_idx hg29 rfl) rfl ?_
          simp only [List.cons_append, List.nil_append]
          obtain ⟨s30, r30, R30, hc30⟩ := act_cases (s := sb) (r := ⟨mb, none, ob, cb⟩) (a := ⟨kd29, ky29, da29, nn29⟩) ⟨Rb, hz29.1, hz29.2⟩
          obtain ⟨m30, sh30, o30, c30⟩ := r30
          rcases hc30 with ⟨l30, hl30, A30⟩ | ⟨hl30, hne30, A30⟩ | ⟨hl30, A30⟩
          · simp only at hl30
            subst hl30
            refine ev_call (f := 24) (sp := spL) rfl (ih_row rfl (ih_row rfl (ih_hid (by first | exact clM _ | exact clC _ | exact clR _) rfl (ih_hid (by first | exact clM _ | exact clC _ | exact clR _) rfl rfl)))) A30 rfl (bh_row rfl (bh_row rfl (bh_hid (by first | exact clM _ | exact clC _ | exact clR _) rfl (bh_hid (by first | exact clM _ | exact clC _ | exact clR _) rfl (bh_hid (by first | exact clM _ | exact clC _ | exact clR _) rfl rfl))))) ?_
            simp only [List.cons_append, List.nil_append]
            refine ev_no rfl (op_neq (by have h := R26.calls; simp only at h; simp [h])) ?_
            refine ev_ask rfl rfl rfl ?_
            refine ev_goto rfl (ih_hid (by first | exact clM _ | exact clC _ | exact clR _) rfl (ih_hid (by first | exact clM _ | exact clC _ | exact clR _) rfl (ih_hid (by first | exact clM _ | exact clC _ | exact clR _) rfl (ih_hid (by first | exact clM _ | exact clC _ | exact clR _) rfl (ih_hid (by first | exact clM _ | exact clC _ | exact clR _) rfl rfl))))) ?_
            rw [i64_inc i (by omega)]
            exact (ih hi h200).h2 s26 m26 o26 c26 s30 m30 l30 none o30 c30 R26 R30 (by omega)
          · simp only at hl30
            subst hl30
            exact absurd rfl hne30
          · simp only at hl30
            subst hl30
            refine ev_callN2 (f := 24) (sp := spL) rfl (ih_row rfl (ih_row rfl (ih_hid (by first | exact clM _ | exact clC _ | exact clR _) rfl (ih_hid (by first | exact clM _ | exact clC _ | exact clR _) rfl rfl)))) A30 rfl (by first | rfl | exact bh_row rfl (bh_row rfl (bh_hid (clM _) rfl (bh_hid (clC _) rfl rfl))) | exact bh_row rfl (bh_row rfl (bh_hid (clM _) rfl (bh_hid (clC _) rfl (bh_hid (clR _) rfl rfl))))) ?_
            refine ev_call (f := 24) (sp := spL) rfl (ih_row rfl (ih_row rfl (ih_hid (by first | exact clM _ | exact clC _ | exact clR _) rfl (ih_hid (by first | exact clM _ | exact clC _ | exact clR _) rfl rfl)))) A30 rfl (bh_row rfl (bh_row rfl (bh_hid (by first | exact clM _ | exact clC _ | exact clR _) rfl (bh_hid (by first | exact clM _ | exact clC _ | exact clR _) rfl rfl)))) ?_
            simp only [List.cons_append, List.nil_append]
            refine ev_no rfl (op_neq (by have h := R26.calls; simp only at h; simp [h])) ?_
            refine ev_ask rfl rfl rfl ?_
            refine ev_goto rfl (ih_hid (by first | exact clM _ | exact clC _ | exact clR _) rfl (ih_hid (by first | exact clM _ | exact clC _ | exact clR _) rfl (ih_hid (by first | exact clM _ | exact clC _ | exact clR _) rfl (ih_hid (by first | exact clM _ | exact clC _ | exact clR _) rfl rfl)))) ?_
            rw [i64_inc i (by omega)]
            exact (ih hi h200).h4 s26 m26 o26 c26 s30 m30 o30 c30 R26 R30 (by omega)
        ·
          refine ev_no rfl (op_neq (by have h := R26.calls; simp only at h; simp [h])) ?_
          refine ev_ask rfl rfl rfl ?_
          refine ev_goto rfl (ih_hid (by first | exact clM _ | exact clC _ | exact clR _) rfl (ih_hid (by first | exact clM _ | exact clC _ | exact clR _) rfl (ih_hid (by first | exact clM _ | exact clC _ | exact clR _) rfl (ih_hid (by first | exact clM _ | exact clC _ | exact clR _) rfl rfl)))) ?_
          rw [i64_inc i (by omega)]
          exact (ih hi h200).h4 s26 m26 o26 c26 sb mb ob cb R26 Rb (by omega)
    · refine ev_no rfl (op_lss (by simp; omega)) ?_
      simp only [List.cons_append, List.nil_append]
      refine ev_call (f := 18) (sp := spL) rfl (ih_row rfl (ih_hid (by first | exact clM _ | exact clC _ | exact clR _) rfl (ih_hid (by first | exact clM _ | exact clC _ | exact clR _) rfl rfl))) (all_rel_nil Ra rfl) rfl (bh_row rfl (bh_hid (by first | exact clM _ | exact clC _ | exact clR _) rfl (bh_hid (by first | exact clM _ | exact clC _ | exact clR _) rfl rfl))) ?_
      simp only [List.cons_append, List.nil_append]
      refine ev_pite (f := 25) (sp := spL) rfl rfl (same_of (a := none) (b := none) rfl (by simp [osL])) (fun _ => ?_) (fun hb => by cases hb)
      refine ev_call (f := 26) (sp := spL) rfl rfl (at26 (none) (by simp [osL])) rfl rfl ?_
      refine ev_call (f := 18) (sp := spL) rfl (ih_row rfl (ih_hid (by first | exact clM _ | exact clC _ | exact clR _) rfl (ih_hid (by first | exact clM _ | exact clC _ | exact clR _) rfl rfl))) (all_rel_nil Ra rfl) rfl (bh_row rfl (bh_hid (by first | exact clM _ | exact clC _ | exact clR _) rfl (bh_hid (by first | exact clM _ | exact clC _ | exact clR _) rfl rfl))) ?_
      simp only [List.cons_append, List.nil_append]
      refine ev_call (f := 18) (sp := spL) rfl (ih_row rfl (ih_hid (by first | exact clM _ | exact clC _ | exact clR _) rfl (ih_hid (by first | exact clM _ | exact clC _ | exact clR _) rfl rfl))) (all_rel_nil Rb rfl) rfl (bh_row rfl (bh_hid (by first | exact clM _ | exact clC _ | exact clR _) rfl (bh_hid (by first | exact clM _ | exact clC _ | exact clR _) rfl rfl))) ?_
      simp only [List.cons_append, List.nil_append]
      exact ev_ret rfl rfl
  · refine ev_no rfl (op_lss (by simp; omega)) ?_
    simp only [List.cons_append, List.nil_append]
    refine ev_call (f := 18) (sp := spL) rfl (ih_row rfl (ih_hid (by first | exact clM _ | exact clC _ | exact clR _) rfl (ih_hid (by first | exact clM _ | exact clC _ | exact clR _) rfl rfl))) (all_rel_nil Ra rfl) rfl (bh_row rfl (bh_hid (by first | exact clM _ | exact clC _ | exact clR _) rfl (bh_hid (by first | exact clM _ | exact clC _ | exact clR _) rfl rfl))) ?_
    simp only [List.cons_append, List.nil_append]
    refine ev_pite (f := 25) (sp := spL) rfl rfl (same_of (a := none) (b := none) rfl (by simp [osL])) (fun _ => ?_) (fun hb => by cases hb)
    refine ev_call (f := 26) (sp := spL) rfl rfl (at26 (none) (by simp [osL])) rfl rfl ?_
    refine ev_call (f := 18) (sp := spL) rfl (ih_row rfl (ih_hid (by first | exact clM _ | exact clC _ | exact clR _) rfl (ih_hid (by first | exact clM _ | exact clC _ | exact clR _) rfl rfl))) (all_rel_nil Ra rfl) rfl (bh_row rfl (bh_hid (by first | exact clM _ | exact clC _ | exact clR _) rfl (bh_hid (by first | exact clM _ | exact clC _ | exact clR _) rfl rfl))) ?_
    simp only [List.cons_append, List.nil_append]
    refine ev_call (f := 18) (sp := spL) rfl (ih_row rfl (ih_hid (by first | exact clM _ | exact clC _ | exact clR _) rfl (ih_hid (by first | exact clM _ | exact clC _ | exact clR _) rfl rfl))) (all_rel_nil Rb rfl) rfl (bh_row rfl (bh_hid (by first | exact clM _ | exact clC _ | exact clR _) rfl (bh_hid (by first | exact clM _ | exact clC _ | exact clR _) rfl rfl))) ?_
    simp only [List.cons_append, List.nil_append]
    exact ev_ret rfl rfl
set_option maxHeartbeats 8000000 in
theorem node5 (zs : List ActD) (hz : ∀ z ∈ zs, okAct z) (q i : Nat) (hile : i ≤ zs.length) (h200' : i ≤ 200) (ih : i < zs.length → i < 200 → AllN zs q (i + 1)) : ∀ (sa : StD) (ma : Int) (osa : List EntS) (capa : Option Nat) (oa ca : Int) (sb : StD) (mb : Int) (ob cb : Int), Rel sa ⟨ma, some (osa, capa), oa, ca⟩ → Rel sb ⟨mb, none, ob, cb⟩ → 31 ≤ i → F8.next spL (q + 1) 5 [acA zs, .int .i64 ((i : Nat) : Int), .int .i64 sa.most, .int .i64 sa.calls, .int .i64 ma, .sl 0 0 osa.length 3 capa, .int .i64 oa, .int .i64 ca, .int .i64 sb.most, .int .i64 sb.calls, .int .i64 mb, .int .i64 ob, .int .i64 cb] [mapO sa.es, chO sa.owed, .row (rowO osa), mapO sb.es, chO sb.owed] = some (.bool true, []) := by
  intro sa ma osa capa oa ca sb mb ob cb Ra Rb hph
  refine next_succ rfl ?_
  refine ev_ask rfl rfl rfl ?_
  rcases Nat.lt_or_ge i zs.length with hi | hi
  · refine ev_yes rfl (op_lss (by simp; omega)) ?_
    rcases Nat.lt_or_ge i 200 with h200 | h200
    · refine ev_yes rfl (op_lss (by simp; omega)) ?_
      refine ev_no rfl (op_eql (by simp; omega)) ?_
      have hlt31 : i < zs.length := by omega
      have hg31 : (zs.map rowAct)[i]? = some (rowAct zs[i]) := by simp [hlt31]
      have hz31 := hz zs[i] (List.getElem_mem hlt31)
      generalize zs[i] = z31 at hg31 hz31
      obtain ⟨kd31, ky31, da31, nn31⟩ := z31
      refine ev_ask rfl (op_idx hg31 rfl) rfl ?_
      simp only [List.cons_append, List.nil_append]
      obtain ⟨s32, r32, R32, hc32⟩ := act_cases (s := sa) (r := ⟨ma, some (osa, capa), oa, ca⟩) (a := ⟨kd31, ky31, da31, nn31⟩) ⟨Ra, hz31.1, hz31.2⟩
      obtain ⟨m32, sh32, o32, c32⟩ := r32
      rcases hc32 with ⟨l32, hl32, A32⟩ | ⟨hl32, hne32, A32⟩ | ⟨hl32, A32⟩
      · simp only at hl32
        subst hl32
        refine ev_call (f := 24) (sp := spL) rfl (ih_row rfl (ih_row rfl (ih_hid (by first | exact clM _ | exact clC _ | exact clR _) rfl (ih_hid (by first | exact clM _ | exact clC _ | exact clR _) rfl (ih_hid (by first | exact clM _ | exact clC _ | exact clR _) rfl rfl))))) A32 rfl (bh_row rfl (bh_row rfl (bh_hid (by first | exact clM _ | exact clC _ | exact clR _) rfl (bh_hid (by first | exact clM _ | exact clC _ | exact clR _) rfl (bh_hid (by first | exact clM _ | exact clC _ | exact clR _) rfl (bh_hid (by first | exact clM _ | exact clC _ | exact clR _) rfl rfl)))))) ?_
        simp only [List.cons_append, List.nil_append]
        refine ev_yes rfl (op_gtr (by simp; omega)) ?_
        refine ev_ask rfl (op_mod3 i) rfl ?_
        refine ev_ite rfl rfl (fun _ => ?_) (fun _ => ?_)
        ·
          refine ev_ask rfl (op_half i (by omega)) rfl ?_
          have hlt33 : i / 2 < zs.length := by omega
          have hg33 : (zs.map rowAct)[i / 2]? = some (rowAct zs[i / 2]) := by simp [hlt33]
          have hz33 := hz zs[i / 2] (List.getElem_mem hlt33)
          generalize zs[i / 2] = z33 at hg33 hz33
          obtain ⟨kd33, ky33, da33, nn33⟩ := z33
          refine ev_ask rfl (op_idx hg33 rfl) rfl ?_
          simp only [List.cons_append, List.nil_append]
          obtain ⟨s34, r34, R34, hc34⟩ := act_cases (s := sb) (r := ⟨mb, none, ob, cb⟩) (a := ⟨kd33, ky33, da33, nn33⟩) ⟨Rb, hz33.1, hz33.2⟩
          obtain ⟨m34, sh34, o34, c34⟩ := r34
          rcases hc34 with ⟨l34, hl34, A34⟩ | ⟨hl34, hne34, A34⟩ | ⟨hl34, A34⟩
          · simp only at hl34
            subst hl34
            refine ev_call (f := 24) (sp := spL) rfl (ih_row rfl (ih_row rfl (ih_hid (by first | exact clM _ | exact clC _ | exact clR _) rfl (ih_hid (by first | exact clM _ | exact clC _ | exact clR _) rfl rfl)))) A34 rfl (bh_row rfl (bh_row rfl (bh_hid (by first | exact clM _ | exact clC _ | exact clR _) rfl (bh_hid (by first | exact clM _ | exact clC _ | exact clR _) rfl (bh_hid (by first | exact clM _ | exact clC _ | exact clR _) rfl rfl))))) ?_
            simp only [List.cons_append, List.nil_append]
            refine ev_no rfl (op_neq (by have h := R32.calls; simp only at h; simp [h])) ?_
            refine ev_ask rfl rfl rfl ?_
            refine ev_goto rfl (ih_hid (by first | exact clM _ | exact clC _ | exact clR _) rfl (ih_hid (by first | exact clM _ | exact clC _ | exact clR _) rfl (ih_hid (by first | exact clM _ | exact clC _ | exact clR _) rfl (ih_hid (by first | exact clM _ | exact clC _ | exact clR _) rfl (ih_hid (by first | exact clM _ | exact clC _ | exact clR _) rfl (ih_hid (by first | exact clM _ | exact clC _ | exact clR _) rfl rfl)))))) ?_
            rw [i64_inc i (by omega)]
            exact (ih hi h200).h3 s32 m32 l32 none o32 c32 s34 m34 l34 none o34 c34 R32 R34 (by omega)
          · simp only at hl34
            subst hl34
            exact absurd rfl hne34
          · simp only at hl34
            subst hl34
            refine ev_callN2 (f := 24) (sp := spL) rfl (ih_row rfl (ih_row rfl (ih_hid (by first | exact clM _ | exact clC _ | exact clR _) rfl (ih_hid (by first | exact clM _ | exact clC _ | exact clR _) rfl rfl)))) A34 rfl (by first | rfl | exact bh_row rfl (bh_row rfl (bh_hid (clM _) rfl (bh_hid (clC _) rfl rfl))) | exact bh_row rfl (bh_row rfl (bh_hid (clM _) rfl (bh_hid (clC _) rfl (bh_hid (clR _) rfl rfl))))) ?_
            refine ev_call (f := 24) (sp := spL) rfl (ih_row rfl (ih_row rfl (ih_hid (by first | exact clM _ | exact clC _ | exact clR _) rfl (ih_hid (by first | exact clM _ | exact clC _ | exact clR _) rfl rfl)))) A34 rfl (bh_row rfl (bh_row rfl (bh_hid (by first | exact clM _ | exact clC _ | exact clR _) rfl (bh_hid (by first | exact clM _ | exact clC _ | exact clR _) rfl rfl)))) ?_
            simp only [List.cons_append, List.nil_append]
            refine ev_no rfl (op_neq (by have h := R32.calls; simp only at h; simp [h])) ?_
            refine ev_ask rfl rfl rfl ?_
            refine ev_goto rfl (ih_hid (by first | exact clM _ | exact clC _ | exact clR _) rfl (ih_hid (by first | exact clM _ | exact clC _ | exact clR _) rfl (ih_hid (by first | exact clM _ | exact clC _ | exact clR _) rfl (ih_hid (by first | exact clM _ | exact clC _ | exact clR _) rfl (ih_hid (by first | exact clM _ | exact clC _ | exact clR _) rfl rfl))))) ?_
            rw [i64_inc i (by omega)]
            exact (ih hi h200).h5 s32 m32 l32 none o32 c32 s34 m34 o34 c34 R32 R34 (by omega)
        ·
          refine ev_no rfl (op_neq (by have h := R32.calls; simp only at h; simp [h])) ?_
          refine ev_ask rfl rfl rfl ?_
          refine ev_goto rfl (ih_hid (by first | exact clM _ | exact clC _ | exact clR _) rfl (ih_hid (by first | exact clM _ | exact clC _ | exact clR _) rfl (ih_hid (by first | exact clM _ | exact clC _ | exact clR _) rfl (ih_hid (by first | exact clM _ | exact clC _ | exact clR _) rfl (ih_hid (by first | exact clM _ | exact clC _ | exact clR _) rfl rfl))))) ?_
          rw [i64_inc i (by omega)]
          exact (ih hi h200).h5 s32 m32 l32 none o32 c32 sb mb ob cb R32 Rb (by omega)
      · simp only at hl32
        subst hl32
        refine ev_callN2 (f := 24) (sp := spL) rfl (ih_row rfl (ih_row rfl (ih_hid (by first | exact clM _ | exact clC _ | exact clR _) rfl (ih_hid (by first | exact clM _ | exact clC _ | exact clR _) rfl (ih_hid (by first | exact clM _ | exact clC _ | exact clR _) rfl rfl))))) A32 rfl (by first | rfl | exact bh_row rfl (bh_row rfl (bh_hid (clM _) rfl (bh_hid (clC _) rfl rfl))) | exact bh_row rfl (bh_row rfl (bh_hid (clM _) rfl (bh_hid (clC _) rfl (bh_hid (clR _) rfl rfl))))) ?_
        refine ev_call (f := 24) (sp := spL) rfl (ih_row rfl (ih_row rfl (ih_hid (by first | exact clM _ | exact clC _ | exact clR _) rfl (ih_hid (by first | exact clM _ | exact clC _ | exact clR _) rfl (ih_hid (by first | exact clM _ | exact clC _ | exact clR _) rfl rfl))))) A32 rfl (bh_row rfl (bh_row rfl (bh_hid (by first | exact clM _ | exact clC _ | exact clR _) rfl (bh_hid (by first | exact clM _ | exact clC _ | exact clR _) rfl (bh_hid (by first | exact clM _ | exact clC _ | exact clR _) rfl rfl))))) ?_
        simp only [List.cons_append, List.nil_append]
        refine ev_yes rfl (op_gtr (by simp; omega)) ?_
        refine ev_ask rfl (op_mod3 i) rfl ?_
        refine ev_ite rfl rfl (fun _ => ?_) (fun _ => ?_)
        ·
          refine ev_ask rfl (op_half i (by omega)) rfl ?_
          have hlt35 : i / 2 < zs.length := by omega
          have hg35 : (zs.map rowAct)[i / 2]? = some (rowAct zs[i / 2]) := by simp [hlt35]
          have hz35 := hz zs[i / 2] (List.getElem_mem hlt35)
          generalize zs[i / 2] = z35 at hg35 hz35
          obtain ⟨kd35, ky35, da35, nn35⟩ := z35
          refine ev_ask rfl (op_idx hg35 rfl) rfl ?_
          simp only [List.cons_append, List.nil_append]
          obtain ⟨s36, r36, R36, hc36⟩ := act_cases (s := sb) (r := ⟨mb, none, ob, cb⟩) (a := ⟨kd35, ky35, da35, nn35⟩) ⟨Rb, hz35.1, hz35.2⟩
          obtain ⟨m36, sh36, o36, c36⟩ := r36
          rcases hc36 with ⟨l36, hl36, A36⟩ | ⟨hl36, hne36, A36⟩ | ⟨hl36, A36⟩
          · simp only at hl36
            subst hl36
            refine ev_call (f := 24) (sp := spL) rfl (ih_row rfl (ih_row rfl (ih_hid (by first | exact clM _ | exact clC _ | exact clR _) rfl (ih_hid (by first | exact clM _ | exact clC _ | exact clR _) rfl rfl)))) A36 rfl (bh_row rfl (bh_row rfl (bh_hid (by first | exact clM _ | exact clC _ | exact clR _) rfl (bh_hid (by first | exact clM _ | exact clC _ | exact clR _) rfl (bh_hid (by first | exact clM _ | exact clC _ | exact clR _) rfl rfl))))) ?_
            simp only [List.cons_append, List.nil_append]
            refine ev_no rfl (op_neq (by have h := R32.calls; simp only at h; simp [h])) ?_
            refine ev_ask rfl rfl rfl ?_
            refine ev_goto rfl (ih_hid (by first | exact clM _ | exact clC _ | exact clR _) rfl (ih_hid (by first | exact clM _ | exact clC _ | exact clR _) rfl (ih_hid (by first | exact clM _ | exact clC _ | exact clR _) rfl (ih_hid (by first | exact clM _ | exact clC _ | exact clR _) rfl (ih_hid (by first | exact clM _ | exact clC _ | exact clR _) rfl rfl))))) ?_
            rw [i64_inc i (by omega)]
            exact (ih hi h200).h2 s32 m32 o32 c32 s36 m36 l36 none o36 c36 R32 R36 (by omega)
          · simp only at hl36
            subst hl36
            exact absurd rfl hne36
          · simp only at hl36
            subst hl36
            refine ev_callN2 (f := 24) (sp := spL) rfl (ih_row rfl (ih_row rfl (ih_hid (by first | exact clM _ | exact clC _ | exact clR _) rfl (ih_hid (by first | exact clM _ | exact clC _ | exact clR _) rfl rfl)))) A36 rfl (by first | rfl | exact bh_row rfl (bh_row rfl (bh_hid (clM _) rfl (bh_hid (clC _) rfl rfl))) | exact bh_row rfl (bh_row rfl (bh_hid (clM _) rfl (bh_hid (clC _) rfl (bh_hid (clR _) rfl rfl))))) ?_
            refine ev_call (f := 24) (sp := spL) rfl (ih_row rfl (ih_row rfl (ih_hid (by first | exact clM _ | exact clC _ | exact clR _) rfl (ih_hid (by first | exact clM _ | exact clC _ | exact clR _) rfl rfl)))) A36 rfl (bh_row rfl (bh_row rfl (bh_hid (by first | exact clM _ | exact clC _ | exact clR _) rfl (bh_hid (by first | exact clM _ | exact clC _ | exact clR _) rfl rfl)))) ?_
            simp only [List.cons_append, List.nil_append]
            refine ev_no rfl (op_neq (by have h := R32.calls; simp only at h; simp [h])) ?_
            refine ev_ask rfl rfl rfl ?_
            refine ev_goto rfl (ih_hid (by first | exact clM _ | exact clC _ | exact clR _) rfl (ih_hid (by first | exact clM _ | exact clC _ | exact clR _) rfl (ih_hid (by first | exact clM _ | exact clC _ | exact clR _) rfl (ih_hid (by first | exact clM _ | exact clC _ | exact clR _) rfl rfl)))) ?_
            rw [i64_inc i (by omega)]
            exact (ih hi h200).h4 s32 m32 o32 c32 s36 m36 o36 c36 R32 R36 (by omega)
        ·
          refine ev_no rfl (op_neq (by have h := R32.calls; simp only at h; simp [h])) ?_
          refine ev_ask rfl rfl rfl ?_
          refine ev_goto rfl (ih_hid (by first | exact clM _ | exact clC _ | exact clR _) rfl (ih_hid (by first | exact clM _ | exact clC _ | exact clR _) rfl (ih_hid (by first | exact clM _ | exact clC _ | exact clR _) rfl (ih_hid (by first | exact clM _ | exact clC _ | exact clR _) rfl rfl)))) ?_
          rw [i64_inc i (by omega)]
          exact (ih hi h200).h4 s32 m32 o32 c32 sb mb ob cb R32 Rb (by omega)
      · simp only at hl32
        subst hl32
        refine ev_callN2 (f := 24) (sp := spL) rfl (ih_row rfl (ih_row rfl (ih_hid (by first | exact clM _ | exact clC _ | exact clR _) rfl (ih_hid (by first | exact clM _ | exact clC _ | exact clR _) rfl (ih_hid (by first | exact clM _ | exact clC _ | exact clR _) rfl rfl))))) A32 rfl (by first | rfl | exact bh_row rfl (bh_row rfl (bh_hid (clM _) rfl (bh_hid (clC _) rfl rfl))) | exact bh_row rfl (bh_row rfl (bh_hid (clM _) rfl (bh_hid (clC _) rfl (bh_hid (clR _) rfl rfl))))) ?_
        refine ev_callN2 (f := 24) (sp := spL) rfl (ih_row rfl (ih_row rfl (ih_hid (by first | exact clM _ | exact clC _ | exact clR _) rfl (ih_hid (by first | exact clM _ | exact clC _ | exact clR _) rfl (ih_hid (by first | exact clM _ | exact clC _ | exact clR _) rfl rfl))))) A32 rfl (by first | rfl | exact bh_row rfl (bh_row rfl (bh_hid (clM _) rfl (bh_hid (clC _) rfl rfl))) | exact bh_row rfl (bh_row rfl (bh_hid (clM _) rfl (bh_hid (clC _) rfl (bh_hid (clR _) rfl rfl))))) ?_
        refine ev_call (f := 24) (sp := spL) rfl (ih_row rfl (ih_row rfl (ih_hid (by first | exact clM _ | exact clC _ | exact clR _) rfl (ih_hid (by first | exact clM _ | exact clC _ | exact clR _) rfl (ih_hid (by first | exact clM _ | exact clC _ | exact clR _) rfl rfl))))) A32 rfl (bh_row rfl (bh_row rfl (bh_hid (by first | exact clM _ | exact clC _ | exact clR _) rfl (bh_hid (by first | exact clM _ | exact clC _ | exact clR _) rfl (bh_hid (by first | exact clM _ | exact clC _ | exact clR _) rfl rfl))))) ?_
        simp only [List.cons_append, List.nil_append]
        refine ev_yes rfl (op_gtr (by simp; omega)) ?_
        refine ev_ask rfl (op_mod3 i) rfl ?_
        refine ev_ite rfl rfl (fun _ => ?_) (fun _ => ?_)
        ·
          refine ev_ask rfl (op_half i (by omega)) rfl ?_
          have hlt37 : i / 2 < zs.length := by omega
          have hg37 : (zs.map rowAct)[i / 2]? = some (rowAct zs[i / 2]) := by simp [hlt37]
          have hz37 := hz zs[i / 2] (List.getElem_mem hlt37)
          generalize zs[i / 2] = z37 at hg37 hz37
          obtain ⟨kd37, ky37, da37, nn37⟩ := z37
          refine ev_ask rfl (op_idx hg37 rfl) rfl ?_
          simp only [List.cons_append, List.nil_append]
          obtain ⟨s38, r38, R38, hc38⟩ := act_cases (s := sb) (r := ⟨mb, none, ob, cb⟩) (a := ⟨kd37, ky37, da37, nn37⟩) ⟨Rb, hz37.1, hz37.2⟩
          obtain ⟨m38, sh38, o38, c38⟩ := r38
          rcases hc38 with ⟨l38, hl38, A38⟩ | ⟨hl38, hne38, A38⟩ | ⟨hl38, A38⟩
          · simp only at hl38
            subst hl38
            refine ev_call (f := 24) (sp := spL) rfl (ih_row rfl (ih_row rfl (ih_hid (by first | exact clM _ | exact clC _ | exact clR _) rfl (ih_hid (by first | exact clM _ | exact clC _ | exact clR _) rfl rfl)))) A38 rfl (bh_row rfl (bh_row rfl (bh_hid (by first | exact clM _ | exact clC _ | exact clR _) rfl (bh_hid (by first | exact clM _ | exact clC _ | exact clR _) rfl (bh_hid (by first | exact clM _ | exact clC _ | exact clR _) rfl rfl))))) ?_
            simp only [List.cons_append, List.nil_append]
            refine ev_no rfl (op_neq (by have h := R32.calls; simp only at h; simp [h])) ?_
            refine ev_ask rfl rfl rfl ?_
            refine ev_goto rfl (ih_hid (by first | exact clM _ | exact clC _ | exact clR _) rfl (ih_hid (by first | exact clM _ | exact clC _ | exact clR _) rfl (ih_hid (by first | exact clM _ | exact clC _ | exact clR _) rfl (ih_hid (by first | exact clM _ | exact clC _ | exact clR _) rfl (ih_hid (by first | exact clM _ | exact clC _ | exact clR _) rfl (ih_hid (by first | exact clM _ | exact clC _ | exact clR _) rfl rfl)))))) ?_
            rw [i64_inc i (by omega)]
            exact (ih hi h200).h3 s32 m32 osa capa o32 c32 s38 m38 l38 none o38 c38 R32 R38 (by omega)
          · simp only at hl38
            subst hl38
            exact absurd rfl hne38
          · simp only at hl38
            subst hl38
            refine ev_callN2 (f := 24) (sp := spL) rfl (ih_row rfl (ih_row rfl (ih_hid (by first | exact clM _ | exact clC _ | exact clR _) rfl (ih_hid (by first | exact clM _ | exact clC _ | exact clR _) rfl rfl)))) A38 rfl (by first | rfl | exact bh_row rfl (bh_row rfl (bh_hid (clM _) rfl (bh_hid (clC _) rfl rfl))) | exact bh_row rfl (bh_row rfl (bh_hid (clM _) rfl (bh_hid (clC _) rfl (bh_hid (clR _) rfl rfl))))) ?_
            refine ev_call (f := 24) (sp := spL) rfl (ih_row rfl (ih_row rfl (ih_hid (by first | exact clM _ | exact clC _ | exact clR _) rfl (ih_hid (by first | exact clM _ | exact clC _ | exact clR _) rfl rfl)))) A38 rfl (bh_row rfl (bh_row rfl (bh_hid (by first | exact clM _ | exact clC _ | exact clR _) rfl (bh_hid (by first | exact clM _ | exact clC _ | exact clR _) rfl rfl)))) ?_
            simp only [List.cons_append, List.nil_append]
            refine ev_no rfl (op_neq (by have h := R32.calls; simp only at h; simp [h])) ?_
            refine ev_ask rfl rfl rfl ?_
            refine ev_goto rfl (ih_hid (by first | exact clM _ | exact clC _ | exact clR _) rfl (ih_hid (by first | exact clM _ | exact clC _ | exact clR _) rfl (ih_hid (by first | exact clM _ | exact clC _ | exact clR _) rfl (ih_hid (by first | exact clM _ | exact clC _ | exact clR _) rfl (ih_hid (by first | exact clM _ | exact clC _ | exact clR _) rfl rfl))))) ?_
            rw [i64_inc i (by omega)]
            exact (ih hi h200).h5 s32 m32 osa capa o32 c32 s38 m38 o38 c38 R32 R38 (by omega)
        ·
          refine ev_no rfl (op_neq (by have h := R32.calls; simp only at h; simp [h])) ?_
          refine ev_ask rfl rfl rfl ?_
          refine ev_goto rfl (ih_hid (by first | exact clM _ | exact clC _ | exact clR _) rfl (ih_hid (by first | exact clM _ | exact clC _ | exact clR _) rfl (ih_hid (by first | exact clM _ | exact clC _ | exact clR _) rfl (ih_hid (by first | exact clM _ | exact clC _ | exact clR _) rfl (ih_hid (by first | exact clM _ | exact clC _ | exact clR _) rfl rfl))))) ?_
          rw [i64_inc i (by omega)]
          exact (ih hi h200).h5 s32 m32 osa capa o32 c32 sb mb ob cb R32 Rb (by omega)
    · refine ev_no rfl (op_lss (by simp; omega)) ?_
      simp only [List.cons_append, List.nil_append]
      by_cases hEa : osa = []
      ·
        refine ev_callN2 (f := 18) (sp := spL) rfl (ih_row rfl (ih_hid (by first | exact clM _ | exact clC _ | exact clR _) rfl (ih_hid (by first | exact clM _ | exact clC _ | exact clR _) rfl rfl))) (all_rel_nil Ra hEa) rfl (bh_row rfl (bh_hid (clM _) rfl (bh_hid (clC _) rfl rfl))) ?_
        refine ev_call (f := 18) (sp := spL) rfl (ih_row rfl (ih_hid (by first | exact clM _ | exact clC _ | exact clR _) rfl (ih_hid (by first | exact clM _ | exact clC _ | exact clR _) rfl rfl))) (all_rel_nil Ra hEa) rfl (bh_row rfl (bh_hid (by first | exact clM _ | exact clC _ | exact clR _) rfl (bh_hid (by first | exact clM _ | exact clC _ | exact clR _) rfl rfl))) ?_
        simp only [List.cons_append, List.nil_append]
        refine ev_pite (f := 25) (sp := spL) rfl (ih_hid (by first | exact clM _ | exact clC _ | exact clR _) rfl rfl) (same_of (a := none) (b := some (osa, capa)) hEa.symm (by simp [osL])) (fun _ => ?_) (fun hb => by cases hb)
        refine ev_call (f := 26) (sp := spL) rfl rfl (at26 (none) (by simp [osL])) rfl rfl ?_
        refine ev_callN2 (f := 18) (sp := spL) rfl (ih_row rfl (ih_hid (by first | exact clM _ | exact clC _ | exact clR _) rfl (ih_hid (by first | exact clM _ | exact clC _ | exact clR _) rfl rfl))) (all_rel_nil Ra hEa) rfl (bh_row rfl (bh_hid (clM _) rfl (bh_hid (clC _) rfl rfl))) ?_
        refine ev_call (f := 18) (sp := spL) rfl (ih_row rfl (ih_hid (by first | exact clM _ | exact clC _ | exact clR _) rfl (ih_hid (by first | exact clM _ | exact clC _ | exact clR _) rfl rfl))) (all_rel_nil Ra hEa) rfl (bh_row rfl (bh_hid (by first | exact clM _ | exact clC _ | exact clR _) rfl (bh_hid (by first | exact clM _ | exact clC _ | exact clR _) rfl rfl))) ?_
        simp only [List.cons_append, List.nil_append]
        refine ev_call (f := 18) (sp := spL) rfl (ih_row rfl (ih_hid (by first | exact clM _ | exact clC _ | exact clR _) rfl (ih_hid (by first | exact clM _ | exact clC _ | exact clR _) rfl rfl))) (all_rel_nil Rb rfl) rfl (bh_row rfl (bh_hid (by first | exact clM _ | exact clC _ | exact clR _) rfl (bh_hid (by first | exact clM _ | exact clC _ | exact clR _) rfl rfl))) ?_
        simp only [List.cons_append, List.nil_append]
        refine ev_pite (f := 25) (sp := spL) rfl rfl (same_of (a := none) (b := none) rfl (by simp [osL])) (fun _ => ?_) (fun hb => by cases hb)
        exact ev_ret rfl rfl
      ·
        refine ev_call (f := 18) (sp := spL) rfl (ih_row rfl (ih_hid (by first | exact clM _ | exact clC _ | exact clR _) rfl (ih_hid (by first | exact clM _ | exact clC _ | exact clR _) rfl rfl))) (all_rel_some Ra hEa) rfl (bh_row rfl (bh_hid (by first | exact clM _ | exact clC _ | exact clR _) rfl (bh_hid (by first | exact clM _ | exact clC _ | exact clR _) rfl (bh_hid (by first | exact clM _ | exact clC _ | exact clR _) rfl rfl)))) ?_
        simp only [List.cons_append, List.nil_append]
        refine ev_pite (f := 25) (sp := spL) rfl (ih_hid (by first | exact clM _ | exact clC _ | exact clR _) rfl (ih_hid (by first | exact clM _ | exact clC _ | exact clR _) rfl rfl)) (same_of (a := some (osa, none)) (b := some (osa, capa)) rfl (by have := rel_len Ra; simp only [osL] at this ⊢; omega)) (fun _ => ?_) (fun hb => by cases hb)
        refine ev_call (f := 26) (sp := spL) rfl (ih_hid (by first | exact clM _ | exact clC _ | exact clR _) rfl rfl) (at26 (some (osa, none)) (by have := rel_len Ra; simp only [osL] at this ⊢; omega)) rfl (bh_hid (by first | exact clM _ | exact clC _ | exact clR _) rfl rfl) ?_
        simp only [List.cons_append, List.nil_append]
        refine ev_call (f := 18) (sp := spL) rfl (ih_row rfl (ih_hid (by first | exact clM _ | exact clC _ | exact clR _) rfl (ih_hid (by first | exact clM _ | exact clC _ | exact clR _) rfl rfl))) (all_rel_some Ra hEa) rfl (bh_row rfl (bh_hid (by first | exact clM _ | exact clC _ | exact clR _) rfl (bh_hid (by first | exact clM _ | exact clC _ | exact clR _) rfl (bh_hid (by first | exact clM _ | exact clC _ | exact clR _) rfl rfl)))) ?_
        simp only [List.cons_append, List.nil_append]
        refine ev_pite (f := 25) (sp := spL) rfl (ih_hid (by first | exact clM _ | exact clC _ | exact clR _) rfl (ih_hid (by first | exact clM _ | exact clC _ | exact clR _) rfl rfl)) (same_of (a := some (osa, none)) (b := some (osa, capa)) rfl (by have := rel_len Ra; simp only [osL] at this ⊢; omega)) (fun _ => ?_) (fun hb => by cases hb)
        refine ev_call (f := 18) (sp := spL) rfl (ih_row rfl (ih_hid (by first | exact clM _ | exact clC _ | exact clR _) rfl (ih_hid (by first | exact clM _ | exact clC _ | exact clR _) rfl rfl))) (all_rel_nil Rb rfl) rfl (bh_row rfl (bh_hid (by first | exact clM _ | exact clC _ | exact clR _) rfl (bh_hid (by first | exact clM _ | exact clC _ | exact clR _) rfl rfl))) ?_
        simp only [List.cons_append, List.nil_append]
        refine ev_pite (f := 25) (sp := spL) rfl rfl (same_of (a := none) (b := none) rfl (by simp [osL])) (fun _ => ?_) (fun hb => by cases hb)
        exact ev_ret rfl rfl
  · refine ev_no rfl (op_lss (by simp; omega)) ?_
    simp only [List.cons_append, List.nil_append]
    by_cases hEa : osa = []
    ·
      refine ev_callN2 (f := 18) (sp := spL) rfl (ih_row rfl (ih_hid (by first | exact clM _ | exact clC _ | exact clR _) rfl (ih_hid (by first | exact clM _ | exact clC _ | exact clR _) rfl rfl))) (all_rel_nil Ra hEa) rfl (bh_row rfl (bh_hid (clM _) rfl (bh_hid (clC _) rfl rfl))) ?_
      refine ev_call (f := 18) (sp := spL) rfl (ih_row rfl (ih_hid (by first | exact clM _ | exact clC _ | exact clR _) rfl (ih_hid (by first | exact clM _ | exact clC _ | exact clR _) rfl rfl))) (all_rel_nil Ra hEa) rfl (bh_row rfl (bh_hid (by first | exact clM _ | exact clC _ | exact clR _) rfl (bh_hid (by first | exact clM _ | exact clC _ | exact clR _) rfl rfl))) ?_
      simp only [List.cons_append, List.nil_append]
      refine ev_pite (f := 25) (sp := spL) rfl (ih_hid (by first | exact clM _ | exact clC _ | exact clR _) rfl rfl) (same_of (a := none) (b := some (osa, capa)) hEa.symm (by simp [osL])) (fun _ => ?_) (fun hb => by cases hb)
      refine ev_call (f := 26) (sp := spL) rfl rfl (at26 (none) (by simp [osL])) rfl rfl ?_
      refine ev_callN2 (f := 18) (sp := spL) rfl (ih_row rfl (ih_hid (by first | exact clM _ | exact clC _ | exact clR _) rfl (ih_hid (by first | exact clM _ | exact clC _ | exact clR _) rfl rfl))) (all_rel_nil Ra hEa) rfl (bh_row rfl (bh_hid (clM _) rfl (bh_hid (clC _) rfl rfl))) ?_
      refine ev_call (f := 18) (sp := spL) rfl (ih_row rfl (ih_hid (by first | exact clM _ | exact clC _ | exact clR _) rfl (ih_hid (by first | exact clM _ | exact clC _ | exact clR _) rfl rfl))) (all_rel_nil Ra hEa) rfl (bh_row rfl (bh_hid (by first | exact clM _ | exact clC _ | exact clR _) rfl (bh_hid (by first | exact clM _ | exact clC _ | exact clR _) rfl rfl))) ?_
      simp only [List.cons_append, List.nil_append]
      refine ev_call (f := 18) (sp := spL) rfl (ih_row rfl (ih_hid (by first | exact clM _ | exact clC _ | exact clR _) rfl (ih_hid (by first | exact clM _ | exact clC _ | exact clR _) rfl rfl))) (all_rel_nil Rb rfl) rfl (bh_row rfl (bh_hid (by first | exact clM _ | exact clC _ | exact clR _) rfl (bh_hid (by first | exact clM _ | exact clC _ | exact clR _) rfl rfl))) ?_
      simp only [List.cons_append, List.nil_append]
      refine ev_pite (f := 25) (sp := spL) rfl rfl (same_of (a := none) (b := none) rfl (by simp [osL])) (fun _ => ?_) (fun hb => by cases hb)
      exact ev_ret rfl rfl
    ·
      refine ev_call (f := 18) (sp := spL) rfl (ih_row rfl (ih_hid (by first | exact clM _ | exact clC _ | exact clR _) rfl (ih_hid (by first | exact clM _ | exact clC _ | exact clR _) rfl rfl))) (all_rel_some Ra hEa) rfl (bh_row rfl (bh_hid (by first | exact clM _ | exact clC _ | exact clR _) rfl (bh_hid (by first | exact clM _ | exact clC _ | exact clR _) rfl (bh_hid (by first | exact clM _ | exact clC _ | exact clR _) rfl rfl)))) ?_
      simp only [List.cons_append, List.nil_append]
      refine ev_pite (f := 25) (sp := spL) rfl (ih_hid (by first | exact clM _ | exact clC _ | exact clR _) rfl (ih_hid (by first | exact clM _ | exact clC _ | exact clR _) rfl rfl)) (same_of (a := some (osa, none)) (b := some (osa, capa)) rfl (by have := rel_len Ra; simp only [osL] at this ⊢; omega)) (fun _ => ?_) (fun hb => by cases hb)
      refine ev_call (f := 26) (sp := spL) rfl (ih_hid (by first | exact clM _ | exact clC _ | exact clR _) rfl rfl) (at26 (some (osa, none)) (by have := rel_len Ra; simp only [osL] at this ⊢; omega)) rfl (bh_hid (by first | exact clM _ | exact clC _ | exact clR _) rfl rfl) ?_
      simp only [List.cons_append, List.nil_append]
      refine ev_call (f := 18) (sp := spL) rfl (ih_row rfl (ih_hid (by first | exact clM _ | exact clC _ | exact clR _) rfl (ih_hid (by first | exact clM _ | exact clC _ | exact clR _) rfl rfl))) (all_rel_some Ra hEa) rfl (bh_row rfl (bh_hid (by first | exact clM _ | exact clC _ | exact clR _) rfl (bh_hid (by first | exact clM _ | exact clC _ | exact clR _) rfl (bh_hid (by first | exact clM _ | exact clC _ | exact clR _) rfl rfl)))) ?_
      simp only [List.cons_append, List.nil_append]
      refine ev_pite (f := 25) (sp := spL) rfl (ih_hid (by first | exact clM _ | exact clC _ | exact clR _) rfl (ih_hid (by first | exact clM _ | exact clC _ | exact clR _) rfl rfl)) (same_of (a := some (osa, none)) (b := some (osa, capa)) rfl (by have := rel_len Ra; simp only [osL] at this ⊢; omega)) (fun _ => ?_) (fun hb => by cases hb)
      refine ev_call (f := 18) (sp := spL) rfl (ih_row rfl (ih_hid (by first | exact clM _ | exact clC _ | exact clR _) rfl (ih_hid (by first | exact clM _ | exact clC _ | exact clR _) rfl rfl))) (all_rel_nil Rb rfl) rfl (bh_row rfl (bh_hid (by first | exact clM _ | exact clC _ | exact clR _) rfl (bh_hid (by first | exact clM _ | exact clC _ | exact clR _) rfl rfl))) ?_
      simp only [List.cons_append, List.nil_append]
      refine ev_pite (f := 25) (sp := spL) rfl rfl (same_of (a := none) (b := none) rfl (by simp [osL])) (fun _ => ?_) (fun hb => by cases hb)
      exact ev_ret rfl rfl
theorem all_nodes (zs : List ActD) (hz : ∀ z ∈ zs, okAct z) : ∀ (q i : Nat), zs.length - i ≤ q → i ≤ zs.length → i ≤ 200 → AllN zs (q + 1) i := by
  intro q
  induction q with
  | zero =>
    intro i h1 h2 h3
    have hv : i < zs.length → i < 200 → AllN zs 0 (i + 1) := fun h => by omega
    exact ⟨node0 zs hz 0 i h2 h3 hv, node1 zs hz 0 i h2 h3 hv, node2 zs hz 0 i h2 h3 hv, node3 zs hz 0 i h2 h3 hv, node4 zs hz 0 i h2 h3 hv, node5 zs hz 0 i h2 h3 hv⟩
  | succ q ih =>
    intro i h1 h2 h3
    have hv : i < zs.length → i < 200 → AllN zs (q + 1) (i + 1) := fun h h' => ih (i + 1) (by omega) (by omega) (by omega)
    exact ⟨node0 zs hz (q + 1) i h2 h3 hv, node1 zs hz (q + 1) i h2 h3 hv, node2 zs hz (q + 1) i h2 h3 hv, node3 zs hz (q + 1) i h2 h3 hv, node4 zs hz (q + 1) i h2 h3 hv, node5 zs hz (q + 1) i h2 h3 hv⟩
theorem acts_true (most : Int) (zs : List ActD) (hz : ∀ z ∈ zs, okAct z) : ∃ H, F8.spec spL (zs.length + 1) [.int .i64 most, .im (zs.map rowAct) 4] [] = some (.bool true, H) := by
  refine ⟨[], ?_⟩
  refine spec_of rfl rfl ?_
  refine ev_ite rfl rfl (fun _ => ?_) (fun h1 => ?_)
  · exact ev_ret rfl rfl
  · refine ev_ite rfl rfl (fun _ => ?_) (fun h2 => ?_)
    · exact ev_ret rfl rfl
    · have h2' : ¬ most > 4096 := by simpa using h2
      refine ev_goto rfl rfl ?_
      have hR : Rel ⟨most, 0, [], []⟩ ⟨most, none, 0, 0⟩ := ⟨rfl, rfl, .inl ⟨rfl, rfl⟩, List.Perm.refl _, List.Pairwise.nil, fun e he => by simp at he, by simp, by simp only; omega⟩
      have := (all_nodes zs hz zs.length 0 (by omega) (by omega) (by omega)).h0 ⟨most, 0, [], []⟩ most 0 0 hR (by omega)
      exact this
end Go.Proofs.BoatV
