/- The contract of All; digits tell numbers apart; what a store holds behind puts. -/
import Derived.Test.YthfdbllpofiabaaDoorS9
namespace Go.Proofs.BoatV
open Go
set_option linter.unusedVariables false
noncomputable def spf1 : FuncId → Spec
  | 29 => g29
  | f => spf f
theorem spf1_ok (f : FuncId) : SpecB Tryd.prog f (spf1 f) := by
  unfold spf1
  split
  · exact k29
  · exact spf_ok _
noncomputable def spD : Sps := ⟨spf1, pf2⟩
theorem spD_ok : spD.ok Tryd.prog := ⟨spf1_ok, pf2_ok⟩
theorem stH_eq (s : StD) : stH s = [stR s.most s.calls, mapO s.es, chO s.owed] := rfl
noncomputable def g18 : Spec := knownM (fun s => fitAll (s, [])) eP stH fun s => allR s []
theorem at18 (s : StD) (h : fitAll (s, [])) : g18 [.ptr 0 0] (stH s) = some (allR s []) := knownM_at (fun d e _ h => stH_inj h) (d := s) h
theorem k18 : SpecB Tryd.prog 18 g18 := knownM_spec fun s hs => by
  refine ⟨_, F18_spec spD_ok 0, ?_⟩
  have A := at29 s [] hs
  refine spec_of rfl (bh_row rfl (bh_hid (clM s.es) rfl (bh_hid (clC s.owed) rfl rfl))) ?_
  have hcall := ih_row (L := nm ([.int .i64 s.most, .int .i64 s.calls]) [mapO s.es, chO s.owed]) (cs := [.hid 0 true [], .mapv 1, .chv 2, .hid 1 true []]) (r := [.hid 0 [], .hid 1 []]) rfl (ih_hid (clM s.es) rfl (ih_hid (clC s.owed) rfl rfl))
  unfold allR at A ⊢
  split at A
  · rename_i h0
    rw [if_pos h0]
    refine ev_callN2 rfl hcall A rfl (bh_row rfl (bh_hid (clM _) rfl (bh_hid (clC _) rfl rfl))) ?_
    refine ev_call rfl hcall A rfl (bh_row rfl (bh_hid (clM _) rfl (bh_hid (clC _) rfl rfl))) ?_
    exact ev_ret rfl (ih_row rfl (ih_hid (clM _) rfl (ih_hid (clC _) rfl rfl)))
  · rename_i h0
    rw [if_neg h0]
    refine ev_call rfl hcall A rfl (bh_row rfl (bh_hid (clM _) rfl (bh_hid (clC _) rfl (bh_hid (clR _) rfl rfl)))) ?_
    exact ev_ret rfl (ih_row rfl (ih_hid (clM _) rfl (ih_hid (clC _) rfl (ih_hid (clR _) rfl rfl))))
noncomputable def spf2 : FuncId → Spec
  | 18 => g18
  | f => spf1 f
theorem spf2_ok (f : FuncId) : SpecB Tryd.prog f (spf2 f) := by
  unfold spf2
  split
  · exact k18
  · exact spf1_ok _
noncomputable def spE : Sps := ⟨spf2, pf2⟩
theorem spE_ok : spE.ok Tryd.prog := ⟨spf2_ok, pf2_ok⟩

/-! ### Digits tell numbers apart -/
def valR : Str → Nat
  | [] => 0
  | b :: r => (b.toNat - 48) * 10 ^ r.length + valR r
theorem dig_val (n : Nat) : (dig n).toNat - 48 = n % 10 := by
  unfold dig
  rw [UInt8.toNat_ofNat']
  omega
theorem valR_decG : ∀ (f n : Nat) (out : Str), n < 10 ^ f → valR (decG f n out) = n * 10 ^ out.length + valR out
  | 0, n, out, h => by
    have : n = 0 := by simpa using h
    subst this; simp [decG]
  | f + 1, n, out, h => by
    simp only [decG]
    split
    · rename_i hn; subst hn; simp
    · rw [valR_decG f (n / 10) _ (by rw [Nat.pow_succ] at h; omega)]
      simp only [List.length_cons, valR, dig_val]
      have h1 : n = 10 * (n / 10) + n % 10 := (Nat.div_add_mod n 10).symm
      generalize n / 10 = a at h1 ⊢
      generalize n % 10 = b at h1 ⊢
      subst h1
      rw [Nat.pow_succ, Nat.add_mul]
      have : a * (10 ^ out.length * 10) = 10 * a * 10 ^ out.length := by
        rw [Nat.mul_comm (10 ^ out.length) 10, ← Nat.mul_assoc, Nat.mul_comm a 10]
      rw [this]; omega
theorem valR_decN (n : Nat) (h : n < 10 ^ 20) : valR (decN n) = n := by
  unfold decN
  rw [valR_decG 20 (n / 10) [dig n] (by omega)]
  simp only [List.length_singleton, valR, dig_val, List.length_nil]
  omega
theorem decN_inj {n m : Nat} (hn : n < 10 ^ 20) (hm : m < 10 ^ 20) (h : decN n = decN m) : n = m := by
  rw [← valR_decN n hn, h, valR_decN m hm]

/-! ### What is there -/
theorem inE_false {k : Str} {es : List EntS} (h : ∀ e ∈ es, k ≠ e.1) : inE k es = false := by
  unfold inE
  rw [List.any_eq_false]
  intro e he
  simp [h e he]
theorem inE_true {k : Str} {es : List EntS} {e : EntS} (he : e ∈ es) (h : k = e.1) : inE k es = true := by
  unfold inE
  rw [List.any_eq_true]
  exact ⟨e, he, by simp [h]⟩
theorem lookE_lt {k : Str} : ∀ {es : List EntS} {i : Nat} {x : Nat × Str × Int}, lookE k es i = some x → i ≤ x.1 ∧ x.1 < i + es.length
  | [], i, x, h => by simp [lookE] at h
  | e :: r, i, x, h => by
    simp only [lookE] at h
    split at h
    · simp at h; subst h; simp
    · have := lookE_lt h
      simp only [List.length_cons]; omega
theorem put_full {k : Str} (hk : keyOk k = true) (m c : Int) (d : Str) (es : List EntS) (t : Nat) (hd : ¬ d.length > 65536) (hn : inE k es = false) (hm : (es.length : Int) ≥ m) : put ⟨m, c, es, []⟩ k d t = (103, ⟨m, inc c, es, []⟩) := by
  have h0 : ¬ (keyOk k = false ∨ d.length > 65536 ∨ (t : Int) < 0) := by
    rintro (h | h | h)
    · rw [hk] at h; cases h
    · exact hd h
    · omega
  simp only [put, called, h0, hn, hm, if_false, if_true, Bool.false_eq_true]
theorem pre_nil (s : Str) : pre [] s = true := by simp [pre]
theorem objs_length (es : List EntS) : (objs es []).length = es.length := by
  have : (isort (keysE es)).filter (pre []) = isort (keysE es) := List.filter_eq_self.2 (fun a _ => pre_nil a)
  simp only [objs, this, List.length_map]
  rw [(isort_perm _).length_eq]
  simp [keysE]
theorem shortK_all : ∀ {l : List Str}, (∀ k ∈ l, k.length ≤ 9223372036854775807) → shortK l = true
  | [], _ => rfl
  | k :: r, h => by
    simp only [shortK, Bool.and_eq_true, Nat.ble_eq]
    exact ⟨h k (by simp), shortK_all fun x hx => h x (by simp [hx])⟩
/-- All of a store that holds something. -/
theorem all_some (s : StD) (h : fitAll (s, [])) (h0 : s.es ≠ []) : g18 [.ptr 0 0] (stH s) = some (.sl 3 0 s.es.length 3 none, [stR s.most s.calls, mapO s.es, chO s.owed, .row (rowO (objs s.es []))]) := by
  rw [at18 s h]
  have h1 : objs s.es [] ≠ [] := fun e => h0 (List.length_eq_zero_iff.1 (by rw [← objs_length, e]; rfl))
  unfold allR
  rw [if_neg h1, objs_length]
  rfl
theorem all_none (s : StD) (h0 : s.es = []) : g18 [.ptr 0 0] (stH s) = some (.snil, [stR s.most s.calls, mapO s.es, chO s.owed]) := by
  rw [at18 s (by rw [fitAll, h0]; exact ⟨rfl, by simp⟩)]
  have h1 : objs s.es [] = [] := List.length_eq_zero_iff.1 (by rw [objs_length, h0]; rfl)
  unfold allR
  rw [if_pos h1]
  rfl
end Go.Proofs.BoatV
