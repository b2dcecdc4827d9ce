/- StoreRoom: the plain law: it answers true. -/
import Derived.Test.YthfdbllpofiabaaDoorS10
namespace Go.Proofs.BoatV
open Go
set_option linter.unusedVariables false
def keyN (c : UInt8) (i : Nat) : Str := c :: decN i
/-- What stands there behind n puts. -/
def esR (c : UInt8) (d : Str) (t : Nat → Int) (a n : Nat) : List EntS := (List.range' a n).map fun j => (keyN c j, d, t j)
theorem esR_length (c : UInt8) (d : Str) (t : Nat → Int) (a n : Nat) : (esR c d t a n).length = n := by simp [esR]
theorem esR_succ (c : UInt8) (d : Str) (t : Nat → Int) (a n : Nat) : esR c d t a (n + 1) = esR c d t a n ++ [(keyN c (a + n), d, t (a + n))] := by
  simp [esR, List.range'_concat]
theorem esR_mem {c : UInt8} {d : Str} {t : Nat → Int} {a n : Nat} {e : EntS} (h : e ∈ esR c d t a n) : ∃ j, a ≤ j ∧ j < a + n ∧ e = (keyN c j, d, t j) := by
  simp only [esR, List.mem_map, List.mem_range'_1] at h
  obtain ⟨j, h1, rfl⟩ := h
  exact ⟨j, h1.1, h1.2, rfl⟩
theorem keyN_inj {c : UInt8} {i j : Nat} (hi : i < 10 ^ 20) (hj : j < 10 ^ 20) (h : keyN c i = keyN c j) : i = j := by
  simp only [keyN, List.cons.injEq, true_and] at h
  exact decN_inj hi hj h
theorem keyN_len (c : UInt8) (i : Nat) : (keyN c i).length ≤ 22 := by have := decN_len i; simp [keyN]; omega
theorem esR_new (c : UInt8) (d : Str) (t : Nat → Int) (a n i : Nat) (h : a + n ≤ i) (hi : i < 10 ^ 20) : inE (keyN c i) (esR c d t a n) = false :=
  inE_false fun e he hk => by
    obtain ⟨j, h1, h2, rfl⟩ := esR_mem he
    have := keyN_inj hi (by omega) hk
    omega
theorem esR_old (c : UInt8) (d : Str) (t : Nat → Int) (a n i : Nat) (h : a ≤ i) (hi : i < a + n) : inE (keyN c i) (esR c d t a n) = true :=
  inE_true (e := (keyN c i, d, t i)) (by simp only [esR, List.mem_map, List.mem_range'_1]; exact ⟨i, ⟨h, hi⟩, rfl⟩) rfl
theorem fitAll_short {s : StD} (h : ∀ e ∈ s.es, e.1.length ≤ 64) (hn : s.es.length ≤ 1000) : fitAll (s, []) := ⟨shortK_all fun k hk => by
  simp only [keysE, List.mem_map] at hk
  obtain ⟨e, he, rfl⟩ := hk
  have := h e he; omega, by simp only; omega⟩
theorem op_cu64 (a : Int) : opK (.conv .u64) [.int .i64 a] = some (.int .u64 (IntKind.u64.wrap a)) := rfl
theorem mem_erase {α : Type} {l : List α} {i : Nat} {a : α} (h : a ∈ l.eraseIdx i) : a ∈ l := (List.eraseIdx_subset (l := l) (k := i)) h

set_option maxHeartbeats 2000000 in
theorem room_go (g : Int) (m : Nat) (hm1 : 1 ≤ m) (hm : m ≤ 32) : ∀ (q i : Nat) (c : Int), m + 3 - i ≤ q → i ≤ m + 3 →
    F7.next spE (q + 1) 0 [.int .i64 g, .int .i64 m, .int .i64 i, .int .i64 m, .int .i64 c] [mapO (esR 111 [] (fun _ => 0) 0 (min i m)), chO []] = some (.bool true, []) := by
  have hmw : IntKind.i64.wrap ((m : Int) + 3) = (m : Int) + 3 := by rw [IntKind.wrap_i64]; omega
  have fin : ∀ (q i : Nat) (c : Int), i = m + 3 → F7.next spE (q + 1) 0 [.int .i64 g, .int .i64 m, .int .i64 i, .int .i64 m, .int .i64 c] [mapO (esR 111 [] (fun _ => 0) 0 (min i m)), chO []] = some (.bool true, []) := by
    intro q i c hi
    have hmin : min i m = m := by omega
    rw [hmin]
    generalize hE : esR 111 [] (fun _ => 0) 0 m = E
    have hlen : E.length = m := by rw [← hE]; exact esR_length _ _ _ _ _
    have hE1 : ∀ e ∈ E, ∃ j, e.1 = keyN 111 j := fun e he => by
      rw [← hE] at he
      obtain ⟨j, _, _, rfl⟩ := esR_mem he
      exact ⟨j, rfl⟩
    refine next_succ rfl ?_
    refine ev_ask rfl (v := .int .i64 ((m : Int) + 3)) (by simp [opK, intK, hmw]) rfl ?_
    refine ev_no rfl (op_lss (by simp; omega)) ?_
    have hw0 : 0 ≤ IntKind.u64.wrap g ∧ IntKind.u64.wrap g < 18446744073709551616 := by rw [IntKind.wrap_u64]; omega
    obtain ⟨w, hw⟩ := Int.eq_ofNat_of_zero_le hw0.1
    have hmu : IntKind.u64.wrap (m : Int) = m := u64_wrap m (by omega)
    refine ev_ask rfl (op_cu64 g) rfl ?_
    refine ev_ask rfl (op_cu64 (m : Int)) rfl ?_
    have hrem : opK (.bin .rem) [.int .u64 (IntKind.u64.wrap g), .int .u64 (IntKind.u64.wrap (m : Int))] = some (.int .u64 ((w % m : Nat) : Int)) := by
      rw [hw, hmu]
      have h1 : ((w : Int).tmod (m : Int)) = ((w % m : Nat) : Int) := by rw [Int.tmod_eq_emod_of_nonneg (by omega)]; rfl
      have h2 : ¬ (m : Int) = 0 := by omega
      have h3 : m ≠ 0 := by omega
      simp [opK, intK, h1, h3]
    refine ev_ask rfl hrem rfl ?_
    have hr : w % m < m := Nat.mod_lt _ (by omega)
    generalize w % m = r at hr
    have hri : IntKind.i64.wrap (r : Int) = r := by rw [IntKind.wrap_i64]; omega
    refine ev_ask rfl (v := .int .i64 (r : Int)) (by simp [opK, hri]) rfl ?_
    refine ev_pcall rfl rfl (at12 r (by omega)) rfl ?_
    refine ev_ask rfl (op_cat1 111 (decN r) (decN_len _)) rfl ?_
    have hin : inE (keyN 111 r) E = true := by rw [← hE]; exact esR_old _ _ _ _ _ _ (by omega) (by omega)
    have hsome := lookE_in (keyN 111 r) E 0
    rw [hin] at hsome
    obtain ⟨x, hx⟩ := Option.isSome_iff_exists.1 hsome
    have hxl := lookE_lt hx
    have A20 : spE.sp 20 [.ptr 0 0, .str (111 :: decN r)] (stH ⟨m, c, E, []⟩) = some (.int .i64 0, stH ⟨m, inc c, E.eraseIdx x.1, []⟩) := by
      have := at20 ⟨m, c, E, []⟩ (keyN 111 r) (fit1_nil _ _ _)
      have e : del ⟨m, c, E, []⟩ (keyN 111 r) = (0, ⟨m, inc c, E.eraseIdx x.1, []⟩) := by simp [del, called, hx]
      rw [e] at this
      exact this
    have hlen2 : (E.eraseIdx x.1).length = m - 1 := by rw [List.length_eraseIdx]; rw [hlen]; rw [if_pos (by omega)]
    have hE2 : ∀ e ∈ E.eraseIdx x.1, ∃ j, e.1 = keyN 111 j := fun e he => hE1 e (mem_erase he)
    generalize E.eraseIdx x.1 = E2 at A20 hlen2 hE2
    simp only [List.cons_append, List.nil_append]
    refine ev_call rfl (ih_row rfl (ih_hid (clM _) rfl (ih_hid (clC _) rfl rfl))) A20 rfl (bh_row rfl (bh_hid (clM _) rfl (bh_hid (clC _) rfl rfl))) ?_
    simp only [List.cons_append, List.nil_append]
    have A13 : spE.sp 13 [.ptr 0 0, .str [97, 103, 97, 105, 110], .str [], .int .i64 0] (stH ⟨m, inc c, E2, []⟩) = some (.int .i64 0, stH ⟨m, inc (inc c), E2 ++ [([97, 103, 97, 105, 110], [], 0)], []⟩) := by
      have := at13 ⟨m, inc c, E2, []⟩ [97, 103, 97, 105, 110] [] 0 (fit1_nil _ _ _)
      rw [show (0 : Int) = ((0 : Nat) : Int) from rfl, put_new (k := [97, 103, 97, 105, 110]) rfl m (inc c) [] E2 0 (by simp) (inE_false fun e he hk => by
        obtain ⟨j, hj⟩ := hE2 e he
        rw [hj] at hk; simp [keyN] at hk) (by rw [hlen2]; omega)] at this
      exact this
    refine ev_call rfl (ih_row rfl (ih_hid (clM _) rfl (ih_hid (clC _) rfl rfl))) A13 rfl (bh_row rfl (bh_hid (clM _) rfl (bh_hid (clC _) rfl rfl))) ?_
    simp only [List.cons_append, List.nil_append]
    generalize hE3 : E2 ++ [([97, 103, 97, 105, 110], [], 0)] = E3
    have hlen3 : E3.length = m := by rw [← hE3]; simp [hlen2]; omega
    have hE4 : ∀ e ∈ E3, (∃ j, e.1 = keyN 111 j) ∨ e.1 = [97, 103, 97, 105, 110] := fun e he => by
      rw [← hE3] at he
      rcases List.mem_append.1 he with he | he
      · exact .inl (hE2 e he)
      · rw [List.mem_singleton.1 he]; exact .inr rfl
    have A13' : spE.sp 13 [.ptr 0 0, .str [109, 111, 114, 101], .str [], .int .i64 0] (stH ⟨m, inc (inc c), E3, []⟩) = some (.int .i64 103, stH ⟨m, inc (inc (inc c)), E3, []⟩) := by
      have := at13 ⟨m, inc (inc c), E3, []⟩ [109, 111, 114, 101] [] 0 (fit1_nil _ _ _)
      rw [show (0 : Int) = ((0 : Nat) : Int) from rfl, put_full (k := [109, 111, 114, 101]) rfl m (inc (inc c)) [] E3 0 (by simp) (inE_false fun e he hk => by
        rcases hE4 e he with ⟨j, hj⟩ | hj
        · rw [hj] at hk; simp [keyN] at hk
        · rw [hj] at hk; simp at hk) (by rw [hlen3]; omega)] at this
      exact this
    refine ev_call rfl (ih_row rfl (ih_hid (clM _) rfl (ih_hid (clC _) rfl rfl))) A13' rfl (bh_row rfl (bh_hid (clM _) rfl (bh_hid (clC _) rfl rfl))) ?_
    simp only [List.cons_append, List.nil_append]
    refine ev_yes rfl (op_eql (by simp)) ?_
    refine ev_yes rfl (op_eql (by simp)) ?_
    refine ev_yes rfl (op_eql (by simp)) ?_
    have hfit : fitAll ((⟨m, inc (inc (inc c)), E3, []⟩ : StD), []) := fitAll_short (fun e he => by
      rcases hE4 e he with ⟨j, hj⟩ | hj
      · rw [hj]; have := keyN_len 111 j; omega
      · rw [hj]; simp) (by simp only; omega)
    have A18 := all_some ⟨m, inc (inc (inc c)), E3, []⟩ hfit (fun e => by
      have h : E3 = [] := e
      rw [h] at hlen3
      simp at hlen3
      omega)
    refine ev_call rfl (ih_row rfl (ih_hid (clM _) rfl (ih_hid (clC _) rfl rfl))) (f := 18) (sp := spE) A18 rfl (bh_row rfl (bh_hid (clM _) rfl (bh_hid (clC _) rfl (bh_hid (clR _) rfl rfl)))) ?_
    simp only [List.cons_append, List.nil_append]
    refine ev_ask rfl rfl rfl ?_
    refine ev_yes rfl (op_eql (by simp [hlen3])) ?_
    exact ev_ret rfl rfl
  intro q
  induction q with
  | zero => intro i c h1 h2; exact fin 0 i c (by omega)
  | succ q ih =>
    intro i c h1 h2
    rcases Nat.lt_or_ge i (m + 3) with hi | hi
    · refine next_succ rfl ?_
      refine ev_ask rfl (v := .int .i64 ((m : Int) + 3)) (by simp [opK, intK, hmw]) rfl ?_
      refine ev_yes rfl (op_lss (by simp; omega)) ?_
      refine ev_pcall rfl rfl (at12 i (by omega)) rfl ?_
      refine ev_ask rfl (op_cat1 111 (decN i) (decN_len _)) rfl ?_
      simp only [List.cons_append, List.nil_append]
      have wi := i64_inc i (by omega)
      have hnext := ih (i + 1) (inc c) (by omega) (by omega)
      have hp := at13 ⟨m, c, esR 111 [] (fun _ => 0) 0 (min i m), []⟩ (keyN 111 i) [] ((0 : Nat) : Int) (fit1_nil _ _ _)
      have hnew : inE (keyN 111 i) (esR 111 [] (fun _ => 0) 0 (min i m)) = false := esR_new _ _ _ _ _ _ (by omega) (by omega)
      rcases Nat.lt_or_ge i m with him | him
      · have hmin : min i m = i := by omega
        have hmin' : min (i + 1) m = i + 1 := by omega
        rw [hmin] at hp hnew ⊢
        rw [hmin', esR_succ, Nat.zero_add] at hnext
        rw [put_new (k := keyN 111 i) (key_dec (c := 111) (by decide) i) m c [] _ 0 (by simp) hnew (by rw [esR_length]; omega)] at hp
        refine ev_call rfl (ih_row rfl (ih_hid (clM _) rfl (ih_hid (clC _) rfl rfl))) (f := 13) (sp := spE) hp rfl (bh_row rfl (bh_hid (clM _) rfl (bh_hid (clC _) rfl rfl))) ?_
        simp only [List.cons_append, List.nil_append]
        refine ev_yes rfl (op_eql (by simp)) ?_
        refine ev_yes rfl (op_lss (by simp; omega)) ?_
        refine ev_ask rfl (op_geq (r := false) (by simp; omega)) rfl ?_
        refine ev_ask rfl rfl rfl ?_
        refine ev_goto rfl (ih_hid (clM _) rfl (ih_hid (clC _) rfl rfl)) ?_
        rw [wi]
        exact hnext
      · have hmin : min i m = m := by omega
        have hmin' : min (i + 1) m = m := by omega
        rw [hmin] at hp hnew ⊢
        rw [hmin'] at hnext
        rw [put_full (k := keyN 111 i) (key_dec (c := 111) (by decide) i) m c [] _ 0 (by simp) hnew (by rw [esR_length]; omega)] at hp
        refine ev_call rfl (ih_row rfl (ih_hid (clM _) rfl (ih_hid (clC _) rfl rfl))) (f := 13) (sp := spE) hp rfl (bh_row rfl (bh_hid (clM _) rfl (bh_hid (clC _) rfl rfl))) ?_
        simp only [List.cons_append, List.nil_append]
        refine ev_no rfl (op_eql (by simp)) ?_
        refine ev_no rfl (op_lss (by simp; omega)) ?_
        refine ev_ask rfl (op_geq (r := true) (by simp; omega)) rfl ?_
        refine ev_no rfl (op_neq (by simp)) ?_
        refine ev_ask rfl rfl rfl ?_
        refine ev_goto rfl (ih_hid (clM _) rfl (ih_hid (clC _) rfl rfl)) ?_
        rw [wi]
        exact hnext
    · exact fin (q + 1) i c (by omega)

theorem room_true (a g : Int) : ∃ H, F7.spec spE 60 [.int .i64 a, .int .i64 g] [] = some (.bool true, H) := by
  refine ⟨[], ?_⟩
  refine spec_of rfl rfl ?_
  refine ev_ask rfl (op_andC a 31) rfl ?_
  obtain ⟨h0, h1⟩ := andC_le a 31 (by omega)
  have h1' : andC a 31 ≤ 31 := h1
  have h0' : 0 ≤ andC a 31 := h0
  generalize andC a 31 = z at h0' h1'
  obtain ⟨k, rfl⟩ := Int.eq_ofNat_of_zero_le h0'
  have hw : IntKind.i64.wrap (1 + (k : Int)) = ((k + 1 : Nat) : Int) := by rw [IntKind.wrap_i64]; omega
  refine ev_ask rfl (v := .int .i64 ((k + 1 : Nat) : Int)) (by simp only [opK, intK, if_true]; rw [hw]) rfl ?_
  refine ev_no rfl (op_lss (by simp; omega)) ?_
  refine ev_no rfl (op_gtr (by simp; omega)) ?_
  refine ev_goto rfl rfl ?_
  have := room_go g (k + 1) (by omega) (by omega) 59 0 0 (by omega) (by omega)
  exact this
end Go.Proofs.BoatV
