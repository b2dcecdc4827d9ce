/- Contracts: a key, a number in decimal digits. -/
import Derived.Test.YthfdbllpofiabaaDoorU1
import Derived.Test.YthfdbllpofiabaaDoorV27
import Derived.Test.YthfdbllpofiabaaDoorS2
namespace Go.Proofs.BoatV
open Go
set_option linter.unusedVariables false
theorem spec_mono {P : Program} {f : FuncId} {s t : Spec} (h : SpecB P f s) (hm : ∀ a H x, t a H = some x → s a H = some x) : SpecB P f t := fun a H r H' ht => h a H r H' (hm _ _ _ ht)


theorem none_ok {P : Program} (f : FuncId) : SpecB P f (fun _ _ => none) := fun a H r H' h => by cases h
theorem pnone_ok {P : Program} (f : FuncId) : SpecB P f (pure1 fun _ _ => none) := fun a H r H' h => by simp [pure1] at h
def pTrim : List AV → Heap → Option AV := fun args H => match args with
  | [.str s, .str c] => if Nat.ble s.length 9223372036854775807 && Nat.ble c.length 4294967280 && c.all (fun b => Nat.blt b.toNat 128) then some (.str (Lib.trimS s c)) else none
  | _ => none
def pPrinted : List AV → Heap → Option AV := fun args H => match args, H with
  | [], [] => some (.str printedL)
  | _, _ => none
theorem pTrim_ok : SpecB Tryd.prog 37 (pure1 pTrim) := spec_mono trimS.bare fun a H x h => by
  unfold pure1 pTrim at h
  unfold trimSpec
  split at h
  · rename_i v hv
    split at hv
    · split at hv
      · rename_i hc; cases hv; cases h; simp [hc]
      · cases hv
    · cases hv
  · cases h
theorem pPrinted_ok : SpecB Tryd.prog 38 (pure1 pPrinted) := spec_mono printedS.bare fun a H x h => by
  unfold pure1 pPrinted at h
  split at h
  · rename_i v hv
    split at hv
    · cases hv; cases h; rfl
    · cases hv
  · cases h
def pf0 : FuncId → List AV → Heap → Option AV
  | 37 => pTrim
  | 38 => pPrinted
  | _ => fun _ _ => none
def spA : Sps := ⟨fun _ _ _ => none, pf0⟩
theorem spA_ok : spA.ok Tryd.prog := ⟨fun f => none_ok f, fun f => by
  show SpecB Tryd.prog f (pure1 (pf0 f))
  unfold pf0
  split
  · exact pTrim_ok
  · exact pPrinted_ok
  · exact pnone_ok _⟩

/-! ### A key -/
def keyB (b : UInt8) : Bool := decide (33 ≤ b.toNat) && decide (b.toNat ≤ 126)
def keyOk (s : Str) : Bool := decide (1 ≤ s.length) && decide (s.length ≤ 64) && s.all keyB
theorem dropW_nil {p : UInt8 → Bool} : ∀ s : Str, s.dropWhile p = [] ↔ ∀ b ∈ s, p b = true
  | [] => by simp
  | x :: xs => by
    rw [List.dropWhile_cons]
    split
    · rename_i h
      rw [dropW_nil xs]
      simp [h]
    · rename_i h
      simp [h]
theorem dropW_head {p : UInt8 → Bool} : ∀ (s : Str) (x : UInt8) (xs : Str), s.dropWhile p = x :: xs → p x = false
  | [], x, xs, h => by simp at h
  | y :: ys, x, xs, h => by
    rw [List.dropWhile_cons] at h
    split at h
    · exact dropW_head ys x xs h
    · rename_i hp
      cases h
      simpa using hp
theorem trimS_nil (s c : Str) : Lib.trimS s c = [] ↔ ∀ b ∈ s, c.contains b = true := by
  unfold Lib.trimS Lib.trimLeftS Lib.trimRightS
  constructor
  · intro h
    have h1 := (dropW_nil _).1 h
    have h2 : s.reverse.dropWhile (c.contains ·) = [] := by
      cases e : s.reverse.dropWhile (c.contains ·) with
      | nil => rfl
      | cons x xs =>
        have h3 := h1 x (by rw [e]; simp)
        have h4 := dropW_head _ _ _ e
        rw [h3] at h4; cases h4
    intro b hb
    exact (dropW_nil _).1 h2 b (by simpa using hb)
  · intro h
    have : s.reverse.dropWhile (c.contains ·) = [] := (dropW_nil _).2 (fun b hb => h b (by simpa using hb))
    rw [this]
    rfl
theorem all_bytes {p q : UInt8 → Bool} (h : ∀ n, n < 256 → p (UInt8.ofNat n) = q (UInt8.ofNat n)) (b : UInt8) : p b = q b := by
  have := h b.toNat b.toNat_lt
  simpa using this
theorem key_set : ∀ b : UInt8, printedL.contains b = keyB b := all_bytes (p := fun b => printedL.contains b) (by decide +kernel)
theorem trim_all {s c : Str} {p : UInt8 → Bool} (h : ∀ b, c.contains b = p b) : ((Lib.trimS s c) == ([] : Str)) = s.all p := by
  rw [Bool.eq_iff_iff]
  simp only [beq_iff_eq, List.all_eq_true]
  rw [trimS_nil]
  exact ⟨fun hh b hb => by rw [← h]; exact hh b hb, fun hh b hb => by rw [h]; exact hh b hb⟩

def eS (s : Str) : List AV := [.str s]
theorem eS_inj (d e : Str) (h : eS d = eS e) : d = e := by simp [eS] at h; exact h
def e1 (x : Int) : List AV := [.int .i64 x]
theorem e1_inj (d e : Int) (h : e1 d = e1 e) : d = e := by simp [e1] at h; exact h
def yes {α : Type} (_ : α) : Prop := True
theorem b_ret {sp : Sps} {next : Nat → List AV → List AO → Option (AV × Heap)} {ρ : List AV} {ω : List AO} {b c : Bool} (h : b = c) : (Tr.ret (.bool b) []).eval sp next ρ ω = some (.bool c, []) := by subst h; rfl
noncomputable def g28 := known yes eS fun s => .bool (keyOk s)
theorem at28 (s : Str) : g28 [.str s] [] = some (.bool (keyOk s)) := known_at eS_inj (d := s) trivial
theorem k28 : SpecB Tryd.prog 28 (pure1 g28) := known_spec (F := F28) (fun n => F28_spec spA_ok n) fun s _ => ⟨0, by
  refine spec_of rfl rfl ?_
  refine ev_ask rfl rfl rfl ?_
  refine ev_ite rfl rfl (fun h => ?_) (fun h => ?_)
  · refine ev_ite rfl rfl (fun h2 => ?_) (fun h2 => ?_)
    · have h2' : s.length ≤ 64 := by simp at h2; omega
      have h1' : 1 ≤ s.length := by simp at h; omega
      refine ev_pcall rfl rfl (v := .str printedL) rfl rfl ?_
      refine ev_pcall rfl rfl (v := .str (Lib.trimS s printedL)) (by
        show pTrim [.str s, .str printedL] [] = _
        unfold pTrim
        have h3 : Nat.ble s.length 9223372036854775807 = true := by rw [Nat.ble_eq]; omega
        simp only [h3]
        rfl) rfl ?_
      refine ev_ite rfl rfl (fun h3 => ?_) (fun h3 => ?_)
      · refine b_ret ?_
        rw [trim_all key_set] at h3
        simp [keyOk, h1', h2', h3]
      · refine b_ret ?_
        rw [trim_all key_set] at h3
        simp [keyOk, h3]
    · exact b_ret (by simp at h2; simp [keyOk]; omega)
  · have h' : ¬ 1 ≤ s.length := by simp at h; omega
    exact b_ret (by simp [keyOk, h'])⟩

/-! ### A number's digits -/
def dig (n : Nat) : UInt8 := UInt8.ofNat (48 + n % 10)
/-- The digits of what is left, ahead of those that are there. -/
def decG : Nat → Nat → Str → Str
  | 0, _, out => out
  | f + 1, n, out => if n = 0 then out else decG f (n / 10) (dig n :: out)
def decN (n : Nat) : Str := decG 20 (n / 10) [dig n]
theorem decG_more : ∀ (f n : Nat) (out : Str), n < 10 ^ f → ∀ g, n < 10 ^ g → decG f n out = decG g n out
  | 0, n, out, h, g, hg => by
    have : n = 0 := by simpa using h
    subst this
    cases g <;> simp [decG]
  | f + 1, n, out, h, g, hg => by
    simp only [decG]
    split
    · rename_i hn
      subst hn
      cases g <;> simp [decG]
    · rename_i hn
      cases g with
      | zero => simp at hg; omega
      | succ g =>
        simp only [decG, hn, if_false]
        exact decG_more f (n / 10) _ (by rw [Nat.pow_succ] at h; omega) g (by rw [Nat.pow_succ] at hg; omega)

theorem u64_wrap (n : Nat) (h : n < 18446744073709551616) : IntKind.u64.wrap (n : Int) = n := by
  rw [IntKind.wrap_u64]; omega
theorem i64_range {x : Int} (h : (Lit.int .i64 x).wf = true) : -9223372036854775808 ≤ x ∧ x ≤ 9223372036854775807 := by
  simp only [Lit.wf, Bool.and_eq_true, decide_eq_true_eq] at h
  exact h
end Go.Proofs.BoatV
