/- StoreOnce: the plain law: it answers true. -/
import Derived.Test.YthfdbllpofiabaaDoorS8
import Derived.Test.YthfdbllpofiabaaDoorS1
import Derived.Test.YthfdbllpofiabaaDoorV23
namespace Go.Proofs.BoatV
open Go
set_option linter.unusedVariables false
theorem dig_range (n : Nat) : 48 ≤ (dig n).toNat ∧ (dig n).toNat ≤ 57 := by
  unfold dig
  rw [UInt8.toNat_ofNat']
  omega
theorem decG_all : ∀ (f n : Nat) (out : Str), (∀ b ∈ out, 48 ≤ b.toNat ∧ b.toNat ≤ 57) → ∀ b ∈ decG f n out, 48 ≤ b.toNat ∧ b.toNat ≤ 57
  | 0, n, out, h, b, hb => h b hb
  | f + 1, n, out, h, b, hb => by
    simp only [decG] at hb
    split at hb
    · exact h b hb
    · refine decG_all f (n / 10) (dig n :: out) (fun c hc => ?_) b hb
      rcases List.mem_cons.1 hc with rfl | hc
      · exact dig_range n
      · exact h c hc
theorem decG_len : ∀ (f n : Nat) (out : Str), (decG f n out).length ≤ out.length + f
  | 0, n, out => by simp [decG]
  | f + 1, n, out => by
    simp only [decG]
    split
    · omega
    · have := decG_len f (n / 10) (dig n :: out)
      simp at this; omega
theorem key_dec {c : UInt8} (hc : keyB c = true) (n : Nat) : keyOk (c :: decN n) = true := by
  have h1 := decG_len 20 (n / 10) [dig n]
  have h2 := decG_all 20 (n / 10) [dig n] (fun b hb => by rw [List.mem_singleton.1 hb]; exact dig_range n)
  have h3 : (decN n).all keyB = true := List.all_eq_true.2 fun b hb => by
    have := h2 b hb
    simp only [keyB, Bool.and_eq_true, decide_eq_true_eq]; omega
  have h4 : (decN n).length ≤ 21 := by have := h1; simp at this; exact this
  simp only [keyOk, List.length_cons, List.all_cons, hc, h3, Bool.and_true, decide_eq_true_eq, Bool.and_eq_true]
  omega
theorem decN_len (n : Nat) : (decN n).length ≤ 21 := by
  have h1 := decG_len 20 (n / 10) [dig n]
  unfold decN
  simpa using h1
theorem op_cat1 (c : UInt8) (s : Str) (h : s.length ≤ 21) : opK (.bin .add) [.str [c], .str s] = some (.str (c :: s)) := by
  have h1 : s.length + 1 ≤ 9223372036854775807 := by omega
  have h2 : 1 + s.length ≤ 9223372036854775807 := by omega
  simp [opK, strOp]
  try omega
theorem i64_inc (i : Nat) (h : i < 9223372036854775807) : IntKind.i64.wrap ((i : Int) + 1) = ((i + 1 : Nat) : Int) := by rw [IntKind.wrap_i64]; omega

theorem r_neqS {a b : Str} (h : a = b) : opK (.bin .neq) [.str a, .str b] = some (.bool false) := by subst h; simp [opK, strOp]
def cutD (d : Str) : Str := if d.length > 1000 then d.take 1000 else d
theorem op_cut (d : Str) (h : d.length > 1000) : opK (.slc none false true false) [.str d, .int .i64 1000] = some (.str (cutD d)) := by
  have h1 : 1000 ≤ d.length := by omega
  simp [opK, take1, slcK, boundA, h1, cutD, h]
theorem cutD_same {d : Str} (h : ¬ d.length > 1000) : cutD d = d := by simp [cutD, h]
theorem cutD_len (d : Str) : ¬ (cutD d).length > 65536 := by
  unfold cutD
  split
  · simp; omega
  · omega
theorem fit1_nil (m c : Int) (es : List EntS) : fit1 ⟨m, c, es, []⟩ := by simp [fit1]
section
variable {k : Str} (hk : keyOk k = true)
include hk
theorem put_new (m c : Int) (d : Str) (es : List EntS) (t : Nat) (hd : ¬ d.length > 65536) (hn : inE k es = false) (hm : ¬ (es.length : Int) ≥ m) : put ⟨m, c, es, []⟩ k d t = (0, ⟨m, inc c, es ++ [(k, d, (t : Int))], []⟩) := by
  have h0 : ¬ (keyOk k = false ∨ d.length > 65536 ∨ (t : Int) < 0) := by
    rintro (h | h | h)
    · rw [hk] at h; cases h
    · exact hd h
    · omega
  simp only [put, called, h0, hn, hm, if_false, Bool.false_eq_true]
theorem put_old (m c : Int) (d : Str) (es : List EntS) (t : Nat) (hd : ¬ d.length > 65536) (hn : inE k es = true) : put ⟨m, c, es, []⟩ k d t = (101, ⟨m, inc c, es, []⟩) := by
  have h0 : ¬ (keyOk k = false ∨ d.length > 65536 ∨ (t : Int) < 0) := by
    rintro (h | h | h)
    · rw [hk] at h; cases h
    · exact hd h
    · omega
  simp only [put, called, h0, hn, if_false, if_true, Bool.false_eq_true]
end
theorem get_one (m c : Int) (k d : Str) (t : Int) : get ⟨m, c, [(k, d, t)], []⟩ k = (d, 0) := by simp [get, called, lookE]

def esAt (k z0 : Str) (i : Nat) : List EntS := if i = 0 then [] else [(k, cutD z0, 0)]
set_option maxHeartbeats 1000000 in
theorem once_go {k : Str} (hk : keyOk k = true) (z0 : Str) (zs : List Str) (h0 : zs[0]? = some z0 ∨ zs = []) : ∀ (q i : Nat) (c : Int), zs.length - i ≤ q → i ≤ zs.length → i ≤ 20 →
    F3.next spC (q + 1) 0 [.im (zs.map fun z => [.str z]) 1, .str k, .int .i64 i, .int .i64 10, .int .i64 c] [mapO (esAt k z0 i), chO []] = some (.bool true, []) := by
  have fin : ∀ (q i : Nat) (c : Int), i = zs.length → F3.next spC (q + 1) 0 [.im (zs.map fun z => [.str z]) 1, .str k, .int .i64 i, .int .i64 10, .int .i64 c] [mapO (esAt k z0 i), chO []] = some (.bool true, []) := by
    intro q i c hi
    refine next_succ rfl ?_
    refine ev_ask rfl rfl rfl ?_
    refine ev_no rfl (op_lss (by simp; omega)) ?_
    exact ev_ret rfl rfl
  intro q
  induction q with
  | zero => intro i c h1 h2 h3; exact fin 0 i c (by omega)
  | succ q ih =>
    intro i c h1 h2 h3
    rcases Nat.lt_or_ge i zs.length with hi | hi
    · refine next_succ rfl ?_
      refine ev_ask rfl rfl rfl ?_
      refine ev_yes rfl (op_lss (by simp; omega)) ?_
      by_cases h20 : i < 20
      · refine ev_yes rfl (op_lss (by simp; omega)) ?_
        have hz0 : zs[0]? = some z0 := by
          rcases h0 with h | h
          · exact h
          · rw [h] at hi; simp at hi
        have hg : (zs.map fun z => [AV.str z])[i]? = some [.str zs[i]] := by simp [hi]
        have hg0 : (zs.map fun z => [AV.str z])[0]? = some [.str z0] := by simp [hz0]
        have hzi : i = 0 → zs[i] = z0 := fun e => by subst e; have := hz0; rw [List.getElem?_eq_getElem hi] at this; exact Option.some.inj this
        generalize zs[i] = z at hg hzi
        refine ev_ask rfl (op_idx hg rfl) rfl ?_
        refine ev_ask rfl rfl rfl ?_
        have next : ∀ c', F3.next spC (q + 1) 0 [.im (zs.map fun z => [.str z]) 1, .str k, .int .i64 ((i + 1 : Nat) : Int), .int .i64 10, .int .i64 c'] [mapO [(k, cutD z0, 0)], chO []] = some (.bool true, []) := fun c' => by
          have := ih (i + 1) c' (by omega) (by omega) (by omega)
          simpa [esAt] using this
        have wi := i64_inc i (by omega)
        by_cases hi0 : i = 0
        · have hes : esAt k z0 i = [] := by simp [esAt, hi0]
          rw [hes]
          have hzz := hzi hi0
          have A13 : spC.sp 13 [.ptr 0 0, .str k, .str (cutD z), .int .i64 i] (stH ⟨10, c, [], []⟩) = some (.int .i64 0, stH ⟨10, inc c, [(k, cutD z0, 0)], []⟩) := by
            have := at13 ⟨10, c, [], []⟩ k (cutD z) i (fit1_nil _ _ _)
            rw [put_new hk 10 c (cutD z) [] i (cutD_len z) rfl (by simp)] at this
            rw [hzz, hi0] at this ⊢
            exact this
          have A14 : spC.sp 14 [.ptr 0 0, .str k] (stH ⟨10, inc c, [(k, cutD z0, 0)], []⟩) = some (.tup [.str (cutD z0), .int .i64 0], stH ⟨10, inc (inc c), [(k, cutD z0, 0)], []⟩) := by
            have := at14 ⟨10, inc c, [(k, cutD z0, 0)], []⟩ k (fit1_nil _ _ _)
            rw [get_one] at this
            exact this
          by_cases hz : z.length > 1000
          · refine ev_yes rfl (op_gtr (by simp; omega)) ?_
            refine ev_ask rfl (op_cut z hz) rfl ?_
            simp only [List.cons_append, List.nil_append]
            refine ev_call rfl (ih_row rfl (ih_hid (clM _) rfl (ih_hid (clC _) rfl rfl))) A13 rfl (bh_row rfl (bh_hid (clM _) rfl (bh_hid (clC _) rfl rfl))) ?_
            simp only [List.cons_append, List.nil_append]
            refine ev_yes rfl (op_eql (by simp [hi0])) ?_
            refine ev_call rfl (ih_row rfl (ih_hid (clM _) rfl (ih_hid (clC _) rfl rfl))) A14 rfl (bh_row rfl (bh_hid (clM _) rfl (bh_hid (clC _) rfl rfl))) ?_
            simp only [List.cons_append, List.nil_append]
            refine ev_ask rfl (op_idx hg0 rfl) rfl ?_
            refine ev_ask rfl rfl rfl ?_
            have hz0l : z0.length > 1000 := by rw [← hzi hi0]; exact hz
            refine ev_yes rfl (op_gtr (by simp; omega)) ?_
            refine ev_ask rfl (op_cut z0 hz0l) rfl ?_
            simp only [List.cons_append, List.nil_append]
            refine ev_no rfl (op_neq (by simp)) ?_
            refine ev_no rfl (op_neq (by simp)) ?_
            refine ev_no rfl (r_neqS rfl) ?_
            refine ev_ask rfl rfl rfl ?_
            refine ev_goto rfl (ih_hid (clM _) rfl (ih_hid (clC _) rfl rfl)) ?_
            rw [wi]
            exact next _
          · rw [cutD_same hz] at A13
            refine ev_no rfl (op_gtr (by simp; omega)) ?_
            simp only [List.cons_append, List.nil_append]
            refine ev_call rfl (ih_row rfl (ih_hid (clM _) rfl (ih_hid (clC _) rfl rfl))) A13 rfl (bh_row rfl (bh_hid (clM _) rfl (bh_hid (clC _) rfl rfl))) ?_
            simp only [List.cons_append, List.nil_append]
            refine ev_yes rfl (op_eql (by simp [hi0])) ?_
            refine ev_call rfl (ih_row rfl (ih_hid (clM _) rfl (ih_hid (clC _) rfl rfl))) A14 rfl (bh_row rfl (bh_hid (clM _) rfl (bh_hid (clC _) rfl rfl))) ?_
            simp only [List.cons_append, List.nil_append]
            refine ev_ask rfl (op_idx hg0 rfl) rfl ?_
            refine ev_ask rfl rfl rfl ?_
            have hz0l : ¬ z0.length > 1000 := by rw [← hzi hi0]; exact hz
            refine ev_no rfl (op_gtr (by simp; omega)) ?_
            simp only [List.cons_append, List.nil_append]
            refine ev_no rfl (op_neq (by simp)) ?_
            refine ev_no rfl (op_neq (by simp)) ?_
            refine ev_no rfl (r_neqS (cutD_same hz0l)) ?_
            refine ev_ask rfl rfl rfl ?_
            refine ev_goto rfl (ih_hid (clM _) rfl (ih_hid (clC _) rfl rfl)) ?_
            rw [wi]
            exact next _
        · have hes : esAt k z0 i = [(k, cutD z0, 0)] := by simp [esAt, hi0]
          rw [hes]
          have A13 : spC.sp 13 [.ptr 0 0, .str k, .str (cutD z), .int .i64 i] (stH ⟨10, c, [(k, cutD z0, 0)], []⟩) = some (.int .i64 101, stH ⟨10, inc c, [(k, cutD z0, 0)], []⟩) := by
            have := at13 ⟨10, c, [(k, cutD z0, 0)], []⟩ k (cutD z) i (fit1_nil _ _ _)
            rw [put_old hk 10 c (cutD z) [(k, cutD z0, 0)] i (cutD_len z) (by simp [inE])] at this
            exact this
          have A14 : spC.sp 14 [.ptr 0 0, .str k] (stH ⟨10, inc c, [(k, cutD z0, 0)], []⟩) = some (.tup [.str (cutD z0), .int .i64 0], stH ⟨10, inc (inc c), [(k, cutD z0, 0)], []⟩) := by
            have := at14 ⟨10, inc c, [(k, cutD z0, 0)], []⟩ k (fit1_nil _ _ _)
            rw [get_one] at this
            exact this
          by_cases hz : z.length > 1000
          · refine ev_yes rfl (op_gtr (by simp; omega)) ?_
            refine ev_ask rfl (op_cut z hz) rfl ?_
            simp only [List.cons_append, List.nil_append]
            refine ev_call rfl (ih_row rfl (ih_hid (clM _) rfl (ih_hid (clC _) rfl rfl))) A13 rfl (bh_row rfl (bh_hid (clM _) rfl (bh_hid (clC _) rfl rfl))) ?_
            simp only [List.cons_append, List.nil_append]
            refine ev_no rfl (op_eql (by simp; omega)) ?_
            refine ev_call rfl (ih_row rfl (ih_hid (clM _) rfl (ih_hid (clC _) rfl rfl))) A14 rfl (bh_row rfl (bh_hid (clM _) rfl (bh_hid (clC _) rfl rfl))) ?_
            simp only [List.cons_append, List.nil_append]
            refine ev_ask rfl (op_idx hg0 rfl) rfl ?_
            refine ev_ask rfl rfl rfl ?_
            by_cases hz0l : z0.length > 1000
            · refine ev_yes rfl (op_gtr (by simp; omega)) ?_
              refine ev_ask rfl (op_cut z0 hz0l) rfl ?_
              simp only [List.cons_append, List.nil_append]
              refine ev_no rfl (op_neq (by simp)) ?_
              refine ev_no rfl (op_neq (by simp)) ?_
              refine ev_no rfl (r_neqS rfl) ?_
              refine ev_ask rfl rfl rfl ?_
              refine ev_goto rfl (ih_hid (clM _) rfl (ih_hid (clC _) rfl rfl)) ?_
              rw [wi]
              exact next _
            · refine ev_no rfl (op_gtr (by simp; omega)) ?_
              simp only [List.cons_append, List.nil_append]
              refine ev_no rfl (op_neq (by simp)) ?_
              refine ev_no rfl (op_neq (by simp)) ?_
              refine ev_no rfl (r_neqS (cutD_same hz0l)) ?_
              refine ev_ask rfl rfl rfl ?_
              refine ev_goto rfl (ih_hid (clM _) rfl (ih_hid (clC _) rfl rfl)) ?_
              rw [wi]
              exact next _
          · rw [cutD_same hz] at A13
            refine ev_no rfl (op_gtr (by simp; omega)) ?_
            simp only [List.cons_append, List.nil_append]
            refine ev_call rfl (ih_row rfl (ih_hid (clM _) rfl (ih_hid (clC _) rfl rfl))) A13 rfl (bh_row rfl (bh_hid (clM _) rfl (bh_hid (clC _) rfl rfl))) ?_
            simp only [List.cons_append, List.nil_append]
            refine ev_no rfl (op_eql (by simp; omega)) ?_
            refine ev_call rfl (ih_row rfl (ih_hid (clM _) rfl (ih_hid (clC _) rfl rfl))) A14 rfl (bh_row rfl (bh_hid (clM _) rfl (bh_hid (clC _) rfl rfl))) ?_
            simp only [List.cons_append, List.nil_append]
            refine ev_ask rfl (op_idx hg0 rfl) rfl ?_
            refine ev_ask rfl rfl rfl ?_
            by_cases hz0l : z0.length > 1000
            · refine ev_yes rfl (op_gtr (by simp; omega)) ?_
              refine ev_ask rfl (op_cut z0 hz0l) rfl ?_
              simp only [List.cons_append, List.nil_append]
              refine ev_no rfl (op_neq (by simp)) ?_
              refine ev_no rfl (op_neq (by simp)) ?_
              refine ev_no rfl (r_neqS rfl) ?_
              refine ev_ask rfl rfl rfl ?_
              refine ev_goto rfl (ih_hid (clM _) rfl (ih_hid (clC _) rfl rfl)) ?_
              rw [wi]
              exact next _
            · refine ev_no rfl (op_gtr (by simp; omega)) ?_
              simp only [List.cons_append, List.nil_append]
              refine ev_no rfl (op_neq (by simp)) ?_
              refine ev_no rfl (op_neq (by simp)) ?_
              refine ev_no rfl (r_neqS (cutD_same hz0l)) ?_
              refine ev_ask rfl rfl rfl ?_
              refine ev_goto rfl (ih_hid (clM _) rfl (ih_hid (clC _) rfl rfl)) ?_
              rw [wi]
              exact next _
      · refine ev_no rfl (op_lss (by simp; omega)) ?_
        exact ev_ret rfl rfl
    · exact fin (q + 1) i c (by omega)

theorem once_true (key : Str) (hkey : key.length ≤ maxLen) (zs : List Str) : ∃ H, F3.spec spC (zs.length + 1) [.str key, .im (zs.map fun z => [.str z]) 1] [] = some (.bool true, H) := by
  refine ⟨[], ?_⟩
  refine spec_of rfl rfl ?_
  refine ev_ask rfl rfl rfl ?_
  refine ev_pcall rfl rfl (at12 key.length (by simpa [maxLen] using hkey)) rfl ?_
  refine ev_ask rfl (op_cat1 107 (decN key.length) (decN_len _)) rfl ?_
  refine ev_goto rfl rfl ?_
  have := once_go (key_dec (c := 107) (by decide) key.length) (zs.headD []) zs (by cases zs <;> simp) zs.length 0 0 (by omega) (by omega) (by omega)
  exact this
end Go.Proofs.BoatV
