/- StoreFails: the plain law: it answers true. -/
import Derived.Test.YthfdbllpofiabaaDoorS12
namespace Go.Proofs.BoatV
open Go
set_option linter.unusedVariables false
def owF (k i : Nat) : List Int := if i < k then [((k - i : Nat) : Int)] else []
theorem owe_owF {k i : Nat} (h : i < k) (hk : k ≤ 31) : owe (((k - i : Nat) : Int)) = owF k (i + 1) := by
  have hw : IntKind.i64.wrap (((k - i : Nat) : Int) - 1) = ((k - (i + 1) : Nat) : Int) := by rw [IntKind.wrap_i64]; omega
  unfold owe owF
  rw [hw]
  by_cases h2 : i + 1 < k
  · rw [if_pos (by omega), if_pos h2]
  · rw [if_neg (by omega), if_neg h2]
theorem put_owed (m c n : Int) (es : List EntS) (k d : Str) (t : Int) : put ⟨m, c, es, [n]⟩ k d t = (104, ⟨m, inc c, es, owe n⟩) := by simp [put, called]
theorem fit1_owF (m c : Int) (es : List EntS) (k i : Nat) : fit1 ⟨m, c, es, owF k i⟩ := by unfold fit1 owF; split <;> simp
theorem fail_neg (s : StD) : fail s (-1) = (100, s) := by simp [fail]
/-- What stands there behind i puts, of which the first k failed. -/
def esF (k i : Nat) : List EntS := esR 120 [100] (fun j => (j : Int)) k (i - k)

set_option maxHeartbeats 2000000 in
theorem fails_go (k c : Nat) (hk : k ≤ 31) (hc : c ≤ 63) : ∀ (q i : Nat), c - i ≤ q → i ≤ c →
    F6.next spE (q + 1) 0 [.int .i64 k, .int .i64 c, .int .i64 0, .int .i64 i, .int .i64 300, .int .i64 i] [mapO (esF k i), chO (owF k i)] = some (.bool true, []) := by
  have fin : ∀ (q i : Nat), i = c → F6.next spE (q + 1) 0 [.int .i64 k, .int .i64 c, .int .i64 0, .int .i64 i, .int .i64 300, .int .i64 i] [mapO (esF k i), chO (owF k i)] = some (.bool true, []) := by
    intro q i hi
    subst hi
    generalize hE : esF k i = E
    have hlen : E.length = i - k := by rw [← hE]; exact esR_length _ _ _ _ _
    have hE1 : ∀ e ∈ E, ∃ j, e.1 = keyN 120 j := fun e he => by
      rw [← hE] at he
      obtain ⟨j, _, _, rfl⟩ := esR_mem he
      exact ⟨j, rfl⟩
    generalize hO : owF k i = O
    have hf : fit1 ⟨300, i, E, O⟩ := by rw [← hO]; exact fit1_owF _ _ _ _ _
    refine next_succ rfl ?_
    refine ev_no rfl (op_lss (by simp)) ?_
    have A17 : spE.sp 17 [.ptr 0 0, .int .i64 (-1)] (stH ⟨300, i, E, O⟩) = some (.int .i64 100, stH ⟨300, i, E, O⟩) := by
      have := at17 ⟨300, i, E, O⟩ (-1) hf
      rw [fail_neg] at this
      exact this
    refine ev_call rfl (ih_row rfl (ih_hid (clM _) rfl (ih_hid (clC _) rfl rfl))) A17 rfl (bh_row rfl (bh_hid (clM _) rfl (bh_hid (clC _) rfl rfl))) ?_
    simp only [List.cons_append, List.nil_append]
    refine ev_yes rfl (op_eql (by simp)) ?_
    refine ev_yes rfl (op_eql (by simp)) ?_
    have hsub : opK (.bin .sub) [.int .i64 i, .int .i64 k] = some (.int .i64 ((i : Int) - k)) := by
      have : IntKind.i64.wrap ((i : Int) - k) = (i : Int) - k := by rw [IntKind.wrap_i64]; omega
      simp [opK, intK, this]
    have hmx : opK .mx [.int .i64 0, .int .i64 ((i : Int) - k)] = some (.int .i64 ((i - k : Nat) : Int)) := by
      simp only [opK, if_true]
      by_cases h : (i : Int) - k > 0
      · rw [if_pos h]; congr 2; omega
      · rw [if_neg h]; congr 2; omega
    rcases Nat.lt_or_ge k i with hki | hki
    · have hfit : fitAll ((⟨300, i, E, O⟩ : StD), []) := fitAll_short (fun e he => by
        obtain ⟨j, hj⟩ := hE1 e he
        rw [hj]; have := keyN_len 120 j; omega) (by simp only; omega)
      have A18 := all_some ⟨300, i, E, O⟩ hfit (fun e => by
        have h : E = [] := e
        rw [h] at hlen
        simp at hlen
        omega)
      refine ev_call rfl (ih_row rfl (ih_hid (clM _) rfl (ih_hid (clC _) rfl rfl))) (f := 18) (sp := spE) A18 rfl (bh_row rfl (bh_hid (clM _) rfl (bh_hid (clC _) rfl (bh_hid (clR _) rfl rfl)))) ?_
      simp only [List.cons_append, List.nil_append]
      refine ev_ask rfl rfl rfl ?_
      refine ev_ask rfl hsub rfl ?_
      refine ev_ask rfl hmx rfl ?_
      refine ev_yes rfl (op_eql (by simp [hlen])) ?_
      refine ev_yes rfl (op_eql (by simp)) ?_
      exact ev_ret rfl rfl
    · have h0 : E = [] := List.length_eq_zero_iff.1 (by rw [hlen]; omega)
      have A18 := all_none ⟨300, i, E, O⟩ h0
      refine ev_callN2 rfl (ih_row rfl (ih_hid (clM _) rfl (ih_hid (clC _) rfl rfl))) (f := 18) (sp := spE) A18 rfl (bh_row rfl (bh_hid (clM _) rfl (bh_hid (clC _) rfl rfl))) ?_
      refine ev_call rfl (ih_row rfl (ih_hid (clM _) rfl (ih_hid (clC _) rfl rfl))) (f := 18) (sp := spE) A18 rfl (bh_row rfl (bh_hid (clM _) rfl (bh_hid (clC _) rfl rfl))) ?_
      simp only [List.cons_append, List.nil_append]
      refine ev_ask rfl hsub rfl ?_
      refine ev_ask rfl hmx rfl ?_
      refine ev_yes rfl (op_eql (by simp; omega)) ?_
      refine ev_yes rfl (op_eql (by simp)) ?_
      exact ev_ret rfl rfl
  intro q
  induction q with
  | zero => intro i h1 h2; exact fin 0 i (by omega)
  | succ q ih =>
    intro i h1 h2
    rcases Nat.lt_or_ge i c with hi | hi
    · refine next_succ rfl ?_
      refine ev_yes rfl (op_lss (by simp; omega)) ?_
      refine ev_pcall rfl rfl (at12 i (by omega)) rfl ?_
      refine ev_ask rfl (op_cat1 120 (decN i) (decN_len _)) rfl ?_
      simp only [List.cons_append, List.nil_append]
      have wi := i64_inc i (by omega)
      have hnext := ih (i + 1) (by omega) (by omega)
      have hp := at13 ⟨300, i, esF k i, owF k i⟩ (keyN 120 i) [100] (i : Int) (fit1_owF _ _ _ _ _)
      have hinc : inc (i : Int) = ((i + 1 : Nat) : Int) := wi
      rcases Nat.lt_or_ge i k with hik | hik
      · have ho : owF k i = [((k - i : Nat) : Int)] := by unfold owF; rw [if_pos hik]
        have he : esF k (i + 1) = esF k i := by
          unfold esF
          rw [show i + 1 - k = 0 by omega, show i - k = 0 by omega]
        rw [ho] at hp ⊢
        rw [put_owed, owe_owF hik hk, hinc] at hp
        rw [he] at hnext
        refine ev_call rfl (ih_row rfl (ih_hid (clM _) rfl (ih_hid (clC _) rfl rfl))) (f := 13) (sp := spE) hp rfl (bh_row rfl (bh_hid (clM _) rfl (bh_hid (clC _) rfl rfl))) ?_
        simp only [List.cons_append, List.nil_append]
        refine ev_no rfl (op_eql (by simp)) ?_
        refine ev_no rfl (op_geq (by simp; omega)) ?_
        refine ev_ask rfl rfl rfl ?_
        refine ev_goto rfl (ih_hid (clM _) rfl (ih_hid (clC _) rfl rfl)) ?_
        rw [wi]
        exact hnext
      · have ho : owF k i = [] := by unfold owF; rw [if_neg (by omega)]
        have ho' : owF k (i + 1) = [] := by unfold owF; rw [if_neg (by omega)]
        have he : esF k (i + 1) = esF k i ++ [(keyN 120 i, [100], (i : Int))] := by
          unfold esF
          rw [show i + 1 - k = (i - k) + 1 by omega, esR_succ, show k + (i - k) = i by omega]
        have hnew : inE (keyN 120 i) (esF k i) = false := esR_new _ _ _ _ _ _ (by omega) (by omega)
        rw [ho] at hp ⊢
        rw [put_new (k := keyN 120 i) (key_dec (c := 120) (by decide) i) 300 i [100] _ i (by simp) hnew (by rw [show (esF k i).length = i - k from esR_length _ _ _ _ _]; omega), hinc, ← he] at hp
        rw [ho'] at hnext
        refine ev_call rfl (ih_row rfl (ih_hid (clM _) rfl (ih_hid (clC _) rfl rfl))) (f := 13) (sp := spE) hp rfl (bh_row rfl (bh_hid (clM _) rfl (bh_hid (clC _) rfl rfl))) ?_
        simp only [List.cons_append, List.nil_append]
        refine ev_yes rfl (op_eql (by simp)) ?_
        refine ev_yes rfl (op_geq (by simp; omega)) ?_
        refine ev_ask rfl rfl rfl ?_
        refine ev_goto rfl (ih_hid (clM _) rfl (ih_hid (clC _) rfl rfl)) ?_
        rw [wi]
        exact hnext
    · exact fin (q + 1) i (by omega)

theorem fails_true (a b : Int) : ∃ H, F6.spec spE 70 [.int .i64 a, .int .i64 b] [] = some (.bool true, H) := by
  refine ⟨[], ?_⟩
  refine spec_of rfl rfl ?_
  refine ev_ask rfl (op_andC a 31) rfl ?_
  refine ev_ask rfl (op_andC b 63) rfl ?_
  obtain ⟨h0, h1⟩ := andC_le a 31 (by omega)
  have h1' : andC a 31 ≤ 31 := h1
  have h0' : 0 ≤ andC a 31 := h0
  generalize andC a 31 = z at h0' h1'
  obtain ⟨k, rfl⟩ := Int.eq_ofNat_of_zero_le h0'
  obtain ⟨g0, g1⟩ := andC_le b 63 (by omega)
  have g1' : andC b 63 ≤ 63 := g1
  have g0' : 0 ≤ andC b 63 := g0
  generalize andC b 63 = z at g0' g1'
  obtain ⟨c, rfl⟩ := Int.eq_ofNat_of_zero_le g0'
  have A17 : spE.sp 17 [.ptr 0 0, .int .i64 (k : Int)] (stH ⟨300, 0, [], []⟩) = some (.int .i64 0, stH ⟨300, 0, [], owF k 0⟩) := by
    have := at17 ⟨300, 0, [], []⟩ (k : Int) (fit1_nil _ _ _)
    have e : fail ⟨300, 0, [], []⟩ (k : Int) = (0, ⟨300, 0, [], owF k 0⟩) := by
      have : ¬ (k : Int) < 0 := by omega
      simp only [fail, this, if_false, owF, Nat.sub_zero]
      by_cases h : 0 < k
      · rw [if_pos h, if_pos (by omega)]
      · rw [if_neg h, if_neg (by omega)]
    rw [e] at this
    exact this
  simp only [List.cons_append, List.nil_append]
  refine ev_call rfl rfl A17 rfl (bh_row rfl (bh_hid (clM _) rfl (bh_hid (clC _) rfl rfl))) ?_
  simp only [List.cons_append, List.nil_append]
  refine ev_goto rfl (ih_hid (clM _) rfl (ih_hid (clC _) rfl rfl)) ?_
  have := fails_go k c (by omega) (by omega) 69 0 (by omega) (by omega)
  have he0 : esF k 0 = [] := List.length_eq_zero_iff.1 (by rw [show (esF k 0).length = 0 - k from esR_length _ _ _ _ _]; omega)
  rw [he0] at this
  exact this
end Go.Proofs.BoatV
