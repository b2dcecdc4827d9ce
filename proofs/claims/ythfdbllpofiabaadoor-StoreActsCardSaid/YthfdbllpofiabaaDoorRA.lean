/- The reference's store: contracts (R2, R3, R4, R5 joined: a claim's folder takes 60 files). -/
import Derived.Test.YthfdbllpofiabaaDoorR1
/- The reference's store as plain data; contracts: Below, KeyMay, place. -/
namespace Go.Proofs.BoatV
open Go
set_option linter.unusedVariables false
theorem less_nil (s : Str) : Op.bytesLess s [] = false := by cases s <;> rfl
theorem op_idxS {s : Str} {c : UInt8} {i : Nat} {z : Int} (h : s[i]? = some c) (hz : z = i) : opK .idxS [.str s, .int .i64 z] = some (.int .u8 c.toNat) := by
  subst hz
  simp [opK, h]
theorem n57 (a b : Str) (ha : a.length ≤ maxLen) (hb : b.length ≤ maxLen) : ∀ (m i : Nat), a.length - i ≤ m → i ≤ a.length → i ≤ b.length →
    F57.next spA (m + 1) 0 [.str a, .str b, .int .i64 i] [] = some (.bool (Op.bytesLess (a.drop i) (b.drop i)), []) := by
  intro m
  induction m with
  | zero =>
    intro i h1 h2 h3
    obtain rfl : i = a.length := by omega
    refine next_succ rfl ?_
    refine ev_ask rfl rfl rfl ?_
    refine ev_no rfl (op_lss (by simp)) ?_
    refine ev_ask rfl rfl rfl ?_
    rw [List.drop_eq_nil_of_le (Nat.le_refl a.length)]
    refine ev_ite rfl rfl (fun h => ?_) (fun h => ?_)
    · have h' : a.length < b.length := by simp at h; omega
      exact b_ret (by rw [List.drop_eq_getElem_cons h']; rfl)
    · have h' : ¬ a.length < b.length := by simp at h; omega
      exact b_ret (by rw [List.drop_eq_nil_of_le (by omega)]; rfl)
  | succ m ih =>
    intro i h1 h2 h3
    refine next_succ rfl ?_
    refine ev_ask rfl rfl rfl ?_
    refine ev_ite rfl rfl (fun h => ?_) (fun h => ?_)
    · have hi : i < a.length := by simp at h; omega
      refine ev_ask rfl rfl rfl ?_
      refine ev_ite rfl rfl (fun h => ?_) (fun h => ?_)
      · have hj : i < b.length := by simp at h; omega
        have ew := wrapN hi ha
        have ih' := ih (i + 1) (by omega) (by omega) (by omega)
        have hg : a[i]? = some a[i] := by simp [hi]
        have hg2 : b[i]? = some b[i] := by simp [hj]
        rw [List.drop_eq_getElem_cons hi, List.drop_eq_getElem_cons hj]
        generalize a[i] = x at hg ⊢
        generalize b[i] = y at hg2 ⊢
        refine ev_ask rfl (op_idxS hg rfl) rfl ?_
        refine ev_ask rfl (op_idxS hg2 rfl) rfl ?_
        refine ev_ite rfl rfl (fun h4 => ?_) (fun h4 => ?_)
        · have hne : ¬ x = y := fun e => by subst e; simp at h4
          refine ev_ite rfl rfl (fun h5 => ?_) (fun h5 => ?_)
          · have : x < y := by rw [UInt8.lt_iff_toNat_lt]; simp at h5; omega
            exact b_ret (by simp [Op.bytesLess, this])
          · have : ¬ x < y := by rw [UInt8.lt_iff_toNat_lt]; simp at h5; omega
            exact b_ret (by simp [Op.bytesLess, this, hne])
        · have he : x = y := by
            have : x.toNat = y.toNat := by simp at h4; omega
            exact UInt8.toNat_inj.1 this
          subst he
          refine ev_ask rfl rfl rfl ?_
          refine ev_goto rfl rfl ?_
          rw [ew]
          refine ih'.trans ?_
          simp [Op.bytesLess]
      · have hj : ¬ i < b.length := by simp at h; omega
        have hbn : b.drop i = [] := List.drop_eq_nil_of_le (by omega)
        rw [hbn, less_nil]
        refine ev_ite rfl rfl (fun h => ?_) (fun h => ?_)
        · exfalso; simp at h; omega
        · exact b_ret rfl
    · have hi : ¬ i < a.length := by simp at h; omega
      refine ev_ask rfl rfl rfl ?_
      have : i = a.length := by omega
      subst this
      rw [List.drop_eq_nil_of_le (Nat.le_refl a.length)]
      refine ev_ite rfl rfl (fun h => ?_) (fun h => ?_)
      · have h' : a.length < b.length := by simp at h; omega
        exact b_ret (by rw [List.drop_eq_getElem_cons h']; rfl)
      · have h' : ¬ a.length < b.length := by simp at h; omega
        exact b_ret (by rw [List.drop_eq_nil_of_le (by omega)]; rfl)
noncomputable def g57 : List AV → Heap → Option AV := known (fun p : Str × Str => p.1.length ≤ maxLen ∧ p.2.length ≤ maxLen) eSS fun p => .bool (Op.bytesLess p.1 p.2)
theorem at57 (a b : Str) (ha : a.length ≤ maxLen) (hb : b.length ≤ maxLen) : g57 [.str a, .str b] [] = some (.bool (Op.bytesLess a b)) := known_at eSS_inj (d := (a, b)) ⟨ha, hb⟩
theorem k57 : SpecB Tryd.prog 57 (pure1 g57) := known_spec (F := F57) (fun n => F57_spec spA_ok n) fun p hp => ⟨p.1.length + 1, by
  refine spec_of rfl rfl ?_
  refine ev_goto rfl rfl ?_
  exact n57 p.1 p.2 hp.1 hp.2 p.1.length 0 (by omega) (by omega) (by omega)⟩

/-! ### KeyMay -/
theorem n44 (s : Str) (hs : s.length ≤ 64) : ∀ (m i : Nat), s.length - i ≤ m → i ≤ s.length → F44.next spA (m + 1) 0 [.str s, .int .i64 i] [] = some (.bool ((s.drop i).all keyB), []) := by
  intro m
  induction m with
  | zero =>
    intro i h1 h2
    obtain rfl : i = s.length := by omega
    refine next_succ rfl ?_
    refine ev_ask rfl rfl rfl ?_
    refine ev_no rfl (op_lss (by simp)) ?_
    exact b_ret (by simp)
  | succ m ih =>
    intro i h1 h2
    rcases Nat.lt_or_ge i s.length with hi | hi
    · refine next_succ rfl ?_
      refine ev_ask rfl rfl rfl ?_
      refine ev_yes rfl (op_lss (by simp; omega)) ?_
      have ih' := ih (i + 1) (by omega) (by omega)
      have hg : s[i]? = some s[i] := by simp [hi]
      rw [List.drop_eq_getElem_cons hi]
      generalize s[i] = x at hg ⊢
      refine ev_ask rfl (op_idxS hg rfl) rfl ?_
      refine ev_ite rfl rfl (fun h => ?_) (fun h => ?_)
      · have h' : ¬ 33 ≤ x.toNat := by simp at h; omega
        exact b_ret (by simp [keyB, h'])
      · have h' : 33 ≤ x.toNat := by simp at h; omega
        refine ev_ite rfl rfl (fun h2 => ?_) (fun h2 => ?_)
        · have h2' : ¬ x.toNat ≤ 126 := by simp at h2; omega
          exact b_ret (by simp [keyB, h2'])
        · have h2' : x.toNat ≤ 126 := by simp at h2; omega
          refine ev_ask rfl rfl rfl ?_
          refine ev_goto rfl rfl ?_
          rw [i64_inc i (by omega)]
          refine ih'.trans ?_
          simp [keyB, h', h2']
    · obtain rfl : i = s.length := by omega
      refine next_succ rfl ?_
      refine ev_ask rfl rfl rfl ?_
      refine ev_no rfl (op_lss (by simp)) ?_
      exact b_ret (by simp)
noncomputable def g44 : List AV → Heap → Option AV := known yes eS fun s => .bool (keyOk s)
theorem at44 (s : Str) : g44 [.str s] [] = some (.bool (keyOk s)) := known_at eS_inj (d := s) trivial
theorem k44 : SpecB Tryd.prog 44 (pure1 g44) := known_spec (F := F44) (fun n => F44_spec spA_ok n) fun s _ => ⟨66, by
  refine spec_of rfl rfl ?_
  refine ev_ask rfl rfl rfl ?_
  refine ev_ite rfl rfl (fun h => ?_) (fun h => ?_)
  · have h' : ¬ 1 ≤ s.length := by simp at h; omega
    exact b_ret (by simp [keyOk, h'])
  · have h' : 1 ≤ s.length := by
      rcases Nat.eq_zero_or_pos s.length with e | e
      · rw [e] at h; simp at h
      · exact e
    refine ev_ite rfl rfl (fun h2 => ?_) (fun h2 => ?_)
    · have h2' : ¬ s.length ≤ 64 := by simp at h2; omega
      exact b_ret (by simp [keyOk, h2'])
    · have h2' : s.length ≤ 64 := by simp at h2; omega
      refine ev_goto rfl rfl ?_
      refine (n44 s h2' 65 0 (by omega) (by omega)).trans ?_
      simp [keyOk, h', h2']⟩

/-! ### The reference's store -/
abbrev ShO := Option (List EntS × Option Nat)
structure RfD where
  most : Int
  sh : ShO
  owed : Int
  calls : Int
def osL : ShO → List EntS
  | none => []
  | some x => x.1
def osA (k : Nat) : ShO → AV
  | none => .snil
  | some x => .sl k 0 x.1.length 3 x.2
def rfR (k : Nat) (m : Int) (s : ShO) (o c : Int) : AO := .row [.int .i64 m, osA k s, .int .i64 o, .int .i64 c]
def rowsO : ShO → Heap
  | none => []
  | some x => [.row (rowO x.1)]
def rfH (r : RfD) : Heap := rfR 1 r.most r.sh r.owed r.calls :: rowsO r.sh
theorem rowO_inj : ∀ {a b : List EntS}, rowO a = rowO b → a = b
  | [], [], _ => rfl
  | [], e :: b, h => by simp [rowO, cellsO] at h
  | e :: a, [], h => by simp [rowO, cellsO] at h
  | e :: a, f :: b, h => by
    simp only [rowO, List.flatMap_cons, cellsO, List.cons_append, List.nil_append, List.cons.injEq, AV.str.injEq, AV.int.injEq, true_and] at h
    obtain ⟨h1, h2, h3, h4⟩ := h
    have := rowO_inj (a := a) (b := b) h4
    subst this
    obtain ⟨e1, e2, e3⟩ := e
    obtain ⟨f1, f2, f3⟩ := f
    simp only at h1 h2 h3
    subst h1; subst h2; subst h3; rfl
theorem rfH_inj {r s : RfD} (h : rfH r = rfH s) : r = s := by
  obtain ⟨m, sh, o, c⟩ := r
  obtain ⟨m', sh', o', c'⟩ := s
  simp only [rfH, rfR, List.cons.injEq, AO.row.injEq, AV.int.injEq, true_and, and_true] at h
  obtain ⟨⟨h1, h2, h3, h4⟩, h5⟩ := h
  subst h1; subst h3; subst h4
  match sh, sh', h2, h5 with
  | none, none, _, _ => rfl
  | none, some x, h2, _ => simp [osA] at h2
  | some x, none, h2, _ => simp [osA] at h2
  | some (a, p), some (b, q), h2, h5 =>
    simp only [osA, AV.sl.injEq, true_and] at h2
    simp only [rowsO, List.cons.injEq, AO.row.injEq, and_true] at h5
    have := rowO_inj h5
    subst this
    rw [h2.2]
/-- Where a key stands, or would stand. -/
def placeL (k : Str) : List EntS → Nat → Nat × Bool
  | [], i => (i, false)
  | e :: r, i => if e.1 = k then (i, true) else if Op.bytesLess e.1 k then placeL k r (i + 1) else (i, false)
end Go.Proofs.BoatV

/- The reference's store: contracts: place, Put. -/
namespace Go.Proofs.BoatV
open Go
set_option linter.unusedVariables false
noncomputable def pf3 : FuncId → List AV → Heap → Option AV
  | 44 => g44
  | 57 => g57
  | f => pf2 f
theorem pf3_ok (f : FuncId) : SpecB Tryd.prog f (pure1 (pf3 f)) := by
  unfold pf3
  split
  · exact k44
  · exact k57
  · exact pf2_ok _
noncomputable def spR0 : Sps := ⟨spf3, pf3⟩
theorem spR0_ok : spR0.ok Tryd.prog := ⟨spf3_ok, pf3_ok⟩
theorem knownM_pure {P : Program} {α : Type} {fit : α → Prop} {enc : α → List AV} {encH : α → Heap} {v : α → AV} {f : FuncId} (h : SpecB P f (knownM fit enc encH fun d => (v d, encH d))) :
    SpecB P f (pure1 fun a H => (knownM fit enc encH (fun d => (v d, encH d)) a H).map (·.1)) := by
  intro a H r H' he
  have e : knownM fit enc encH (fun d => (v d, encH d)) a H = some (r, H') := by
    unfold pure1 at he
    split at he
    · rename_i x hx
      simp only [Option.some.injEq, Prod.mk.injEq] at he
      obtain ⟨rfl, rfl⟩ := he
      simp only [Option.map_eq_some_iff] at hx
      obtain ⟨⟨x1, x2⟩, h1, rfl⟩ := hx
      have h2 := h1
      unfold knownM at h2
      split at h2
      · rename_i hh
        obtain ⟨_, _, h3⟩ := Classical.choose_spec hh
        simp only [Option.some.injEq, Prod.mk.injEq] at h2
        rw [h1, ← h2.2, h3]
      · cases h2
    · cases he
  exact h _ _ _ _ e

/-! ### place -/
def tupP (x : Nat × Bool) : AV := .tup [.int .i64 (x.1 : Int), .bool x.2]
theorem op_idxC (j n i : Nat) (cap : Option Nat) (h : i < n) : opK (.idxA 3) [.sl j 0 n 3 cap, .int .i64 (i : Int)] = some (.ptr j (0 + i * 3)) := by
  have : (i : Int) < (n : Int) := by omega
  simp [opK, this]
theorem place_go {os : List EntS} {cap : Option Nat} {m o c : Int} {k : Str} (hk : k.length ≤ maxLen) (ho : ∀ e ∈ os, e.1.length ≤ maxLen) (hn : os.length ≤ 1099511627776) : ∀ (q i : Nat), os.length - i ≤ q → i ≤ os.length →
    F45o.next spR0 (q + 1) 0 [.str k, .int .i64 i, .int .i64 m, .sl 0 0 os.length 3 cap, .int .i64 o, .int .i64 c] [.row (rowO os)] =
      some (tupP (placeL k (os.drop i) i), [rfR 1 m (some (os, cap)) o c, .row (rowO os)]) := by
  have fin : ∀ (q i : Nat), i = os.length → F45o.next spR0 (q + 1) 0 [.str k, .int .i64 i, .int .i64 m, .sl 0 0 os.length 3 cap, .int .i64 o, .int .i64 c] [.row (rowO os)] =
      some (tupP (placeL k (os.drop i) i), [rfR 1 m (some (os, cap)) o c, .row (rowO os)]) := by
    intro q i hi
    subst hi
    rw [List.drop_length]
    refine next_succ rfl ?_
    refine ev_ask rfl rfl rfl ?_
    refine ev_no rfl (op_lss (by simp)) ?_
    exact ev_ret rfl (ih_row rfl (ih_hid (clR _) rfl rfl))
  intro q
  induction q with
  | zero => intro i h1 h2; exact fin 0 i (by omega)
  | succ q ih =>
    intro i h1 h2
    rcases Nat.lt_or_ge i os.length with hi | hi
    · have he : os[i]? = some os[i] := List.getElem?_eq_getElem hi
      have hd := List.drop_eq_getElem_cons hi
      have hel : os[i].1.length ≤ maxLen := ho _ (List.getElem_mem hi)
      have hnext := ih (i + 1) (by omega) (by omega)
      generalize os[i] = e at he hd hel
      rw [hd]
      simp only [placeL]
      refine next_succ rfl ?_
      refine ev_ask rfl rfl rfl ?_
      refine ev_yes rfl (op_lss (by simp; omega)) ?_
      refine ev_ask rfl (op_idxC 1 os.length i cap hi) rfl ?_
      refine ev_ask rfl rfl rfl ?_
      simp only [List.cons_append, List.nil_append]
      refine ev_phop rfl (ih_hid (clR os) rfl rfl) (op_loadO os i 0 e (.str e.1) he (by omega) rfl) rfl ?_
      simp only [List.cons_append, List.nil_append]
      by_cases hk1 : e.1 = k
      · rw [if_pos hk1]
        refine ev_yes rfl (op_eqlS (beq_iff_eq.2 hk1)) ?_
        exact ev_ret rfl (ih_row rfl (ih_hid (clR _) rfl rfl))
      · rw [if_neg hk1]
        refine ev_no rfl (op_eqlS (beq_eq_false_iff_ne.2 hk1)) ?_
        refine ev_pite rfl rfl (at57 e.1 k hel hk) (fun hb => ?_) (fun hb => ?_)
        · rw [if_pos hb]
          refine ev_ask rfl rfl rfl ?_
          refine ev_goto rfl (ih_hid (clR _) rfl rfl) ?_
          rw [i64_inc i (by omega)]
          exact hnext
        · rw [if_neg (by rw [hb]; simp)]
          exact ev_ret rfl (ih_row rfl (ih_hid (clR _) rfl rfl))
    · exact fin (q + 1) i (by omega)
abbrev PR := RfD × Str
def ePl (x : PR) : List AV := [.ptr 0 0, .str x.2]
def hPl (x : PR) : Heap := rfH x.1
theorem pl_inj (d e : PR) (h : ePl d = ePl e) (h2 : hPl d = hPl e) : d = e := by
  obtain ⟨a, b⟩ := d; obtain ⟨a', b'⟩ := e
  have h3 := rfH_inj h2
  simp [ePl] at h
  simp at h3
  simp [h, h3]
def fitR (r : RfD) : Prop := (∀ e ∈ osL r.sh, e.1.length ≤ maxLen) ∧ (osL r.sh).length ≤ 1099511627776
def fitPl (x : PR) : Prop := x.2.length ≤ maxLen ∧ fitR x.1 ∧ x.1.sh ≠ none
noncomputable def g45 : List AV → Heap → Option AV := fun a H => (knownM fitPl ePl hPl (fun x => (tupP (placeL x.2 (osL x.1.sh) 0), hPl x)) a H).map (·.1)
theorem at45 (m : Int) (os : List EntS) (cap : Option Nat) (o c : Int) (k : Str) (hk : k.length ≤ maxLen) (ho : ∀ e ∈ os, e.1.length ≤ maxLen) (hn : os.length ≤ 1099511627776) :
    g45 [.ptr 0 0, .str k] [rfR 1 m (some (os, cap)) o c, .row (rowO os)] = some (tupP (placeL k os 0)) := by
  have := knownM_at (fit := fitPl) (g := fun x => (tupP (placeL x.2 (osL x.1.sh) 0), hPl x)) pl_inj (d := (⟨m, some (os, cap), o, c⟩, k)) ⟨hk, ⟨ho, hn⟩, by simp⟩
  show (knownM fitPl ePl hPl (fun x => (tupP (placeL x.2 (osL x.1.sh) 0), hPl x)) (ePl (⟨m, some (os, cap), o, c⟩, k)) (hPl (⟨m, some (os, cap), o, c⟩, k))).map (·.1) = _
  rw [this]
  rfl
theorem k45 : SpecB Tryd.prog 45 (pure1 g45) := knownM_pure (knownM_spec fun x hx => by
  obtain ⟨⟨m, sh, o, c⟩, k⟩ := x
  obtain ⟨h1, ⟨h2, h3⟩, h4⟩ := hx
  match sh, h2, h3, h4 with
  | none, _, _, h4 => exact absurd rfl h4
  | some (os, cap), h2, h3, _ =>
    refine ⟨_, F45o_spec spR0_ok (os.length + 1), ?_⟩
    refine spec_of rfl (bh_row rfl (bh_hid (clR os) rfl rfl)) ?_
    refine ev_goto rfl (ih_hid (clR _) rfl rfl) ?_
    exact place_go (os := os) (k := k) h1 h2 h3 os.length 0 (by omega) (by omega))
noncomputable def pf4 : FuncId → List AV → Heap → Option AV
  | 45 => g45
  | f => pf3 f
theorem pf4_ok (f : FuncId) : SpecB Tryd.prog f (pure1 (pf4 f)) := by
  unfold pf4
  split
  · exact k45
  · exact pf3_ok _
noncomputable def spR1 : Sps := ⟨spf3, pf4⟩
theorem spR1_ok : spR1.ok Tryd.prog := ⟨spf3_ok, pf4_ok⟩

/-! ### Slices of slices; what is appended -/
theorem rowO_take : ∀ (O : List EntS) (k : Nat), (rowO O).take (k * 3) = rowO (O.take k)
  | [], k => by simp [rowO]
  | e :: O, 0 => by simp [rowO]
  | e :: O, k + 1 => by
    have ih := rowO_take O k
    simp only [rowO, List.flatMap_cons, List.take_succ_cons, cellsO] at ih ⊢
    rw [show (k + 1) * 3 = k * 3 + 3 by omega]
    simp only [List.cons_append, List.nil_append, List.take_succ_cons]
    rw [ih]
theorem rowO_drop : ∀ (O : List EntS) (k : Nat), (rowO O).drop (k * 3) = rowO (O.drop k)
  | [], k => by simp [rowO]
  | e :: O, 0 => by simp [rowO]
  | e :: O, k + 1 => by
    have ih := rowO_drop O k
    simp only [rowO, List.flatMap_cons, List.drop_succ_cons, cellsO] at ih ⊢
    rw [show (k + 1) * 3 = k * 3 + 3 by omega]
    simp only [List.cons_append, List.nil_append, List.drop_succ_cons]
    rw [ih]
theorem op_slcTo (n k : Nat) (cap : Option Nat) (h : k ≤ n) : opK (.slc (some 3) false true false) [.sl 1 0 n 3 cap, .int .i64 (k : Int)] = some (.sl 1 0 k 3 cap) := by
  rcases Nat.eq_zero_or_pos k with h0 | h0
  · subst h0; simp [opK, take1, slcK, boundA]
  · simp [opK, take1, slcK, boundA, h, h0]
theorem op_slcFrom (n k : Nat) (cap : Option Nat) (h : k < n) : opK (.slc (some 3) true false false) [.sl 1 0 n 3 cap, .int .i64 (k : Int)] = some (.sl 1 (0 + k * 3) (n - k) 3 (cap.map (· - k))) := by
  have : k ≤ n := by omega
  simp [opK, take1, slcK, boundA, h, this]
theorem op_slcEnd (n : Nat) (cap : Option Nat) (h : 0 < n) : opK (.slc (some 3) true false false) [.sl 1 0 n 3 cap, .int .i64 (n : Int)] = some (.im [] 3) := by
  have : ¬ n = 0 := by omega
  simp [opK, take1, slcK, boundA, this]
theorem op_slcNil (cap : Option Nat) : opK (.slc (some 3) true false false) [.sl 1 0 0 3 cap, .int .i64 0] = some (.sl 1 0 0 3 cap) := by
  simp [opK, take1, slcK, boundA]
theorem op_app1 (O : List EntS) (k : Nat) (cap : Option Nat) (h0 : 0 < k) (h : k ≤ O.length) (hb : O.length ≤ 2000000000000) : opH (.app 3 40) [.snil, .sl 0 0 k 3 cap] [.row (rowO O)] = some (.sl 1 0 k 3 none, [.row (rowO O), .row (rowO (O.take k))]) := by
  have h1 : 0 + k * 3 ≤ (rowO O).length := by rw [rowO_length]; omega
  have h2 : k * 40 ≤ 140737488355328 := by omega
  have h3 : ¬ k = 0 := by omega
  simp only [opH, srcK, rowAt, List.getElem?_cons_zero, h1, and_self, if_true, List.drop_zero, rowO_take, allOne_rowO, h3, if_false, h2, grownA, List.length_singleton, List.nil_append]
  rfl
theorem op_app1z (O : List EntS) (cap : Option Nat) : opH (.app 3 40) [.snil, .sl 0 0 0 3 cap] [.row (rowO O)] = some (.snil, [.row (rowO O)]) := by
  simp [opH, srcK, rowAt, allOne]
theorem op_app3 (A O : List EntS) (k n : Nat) (cap : Option Nat) (hn : n = O.length) (h : k < n) (hb : A.length + O.length ≤ 3000000000000) : opH (.app 3 40) [.sl 0 0 A.length 3 none, .sl 1 (0 + k * 3) (n - k) 3 cap] [.row (rowO A), .row (rowO O)] = some (.sl 2 0 (A.length + (n - k)) 3 none, [.dead, .row (rowO O), .row (rowO (A ++ O.drop k))]) := by
  subst hn
  have h1 : 0 + k * 3 + (O.length - k) * 3 ≤ (rowO O).length := by rw [rowO_length]; omega
  have h2 : (A.length + (O.length - k)) * 40 ≤ 140737488355328 := by omega
  have h3 : ¬ O.length - k = 0 := by omega
  have h4 : ((rowO O).drop (0 + k * 3)).take ((O.length - k) * 3) = rowO (O.drop k) := by
    rw [Nat.zero_add, rowO_drop, rowO_take]
    congr 1
    rw [List.take_of_length_le (by simp)]
  have hA := rowO_length A
  have h5 : rowO (A ++ O.drop k) = rowO A ++ rowO (O.drop k) := by simp [rowO]
  simp only [opH, srcK, rowAt, List.getElem?_cons_succ, List.getElem?_cons_zero, h1, and_self, if_true, h4, allOne_rowO, h3, if_false, h2, hA, grownA, List.length_cons, List.length_nil, h5, true_and]
  rfl
theorem op_app3e (A O : List EntS) : opH (.app 3 40) [.sl 0 0 A.length 3 none, .im [] 3] [.row (rowO A), .row (rowO O)] = some (.sl 0 0 A.length 3 none, [.row (rowO A), .row (rowO O)]) := by
  simp [opH, srcK, allOne]
theorem op_app3z (A O : List EntS) (cap : Option Nat) : opH (.app 3 40) [.sl 0 0 A.length 3 none, .sl 1 0 0 3 cap] [.row (rowO A), .row (rowO O)] = some (.sl 0 0 A.length 3 none, [.row (rowO A), .row (rowO O)]) := by
  simp [opH, srcK, rowAt, allOne]

/-! ### Put -/
def insL (os : List EntS) (i : Nat) (e : EntS) : List EntS := os.take i ++ e :: os.drop i
/-- The memory behind a call: the old slice's cells stay. Is there a new slice? -/
def rfH2 (s : ShO) (r : RfD) : Bool → Heap
  | false => rfR 1 r.most s r.owed r.calls :: rowsO s
  | true => rfR (1 + (rowsO s).length) r.most r.sh r.owed r.calls :: (rowsO s ++ rowsO r.sh)
def putR (r : RfD) (k d : Str) (t : Int) : Int × RfD × Bool :=
  if r.owed > 0 then (104, { r with calls := inc r.calls, owed := IntKind.i64.wrap (r.owed - 1) }, false) else
  if keyOk k = false ∨ d.length > 65536 ∨ t < 0 then (100, { r with calls := inc r.calls }, false) else
  if (placeL k (osL r.sh) 0).2 then (101, { r with calls := inc r.calls }, false) else
  if ((osL r.sh).length : Int) ≥ r.most then (103, { r with calls := inc r.calls }, false) else
  (0, { r with calls := inc r.calls, sh := some (insL (osL r.sh) (placeL k (osL r.sh) 0).1 (k, d, t), none) }, true)
abbrev PP := RfD × Str × Str × Int
def ePR (x : PP) : List AV := [.ptr 0 0, .str x.2.1, .str x.2.2.1, .int .i64 x.2.2.2]
def hPR (x : PP) : Heap := rfH x.1
theorem pr_inj (d e : PP) (h : ePR d = ePR e) (h2 : hPR d = hPR e) : d = e := by
  obtain ⟨a, b, c, f⟩ := d; obtain ⟨a', b', c', f'⟩ := e
  have h3 := rfH_inj h2
  simp [ePR] at h
  simp at h3
  simp [h, h3]
def fitPut (x : PP) : Prop := x.2.1.length ≤ maxLen ∧ fitR x.1
def resPut (x : PP) : AV × Heap := (.int .i64 (putR x.1 x.2.1 x.2.2.1 x.2.2.2).1, rfH2 x.1.sh (putR x.1 x.2.1 x.2.2.1 x.2.2.2).2.1 (putR x.1 x.2.1 x.2.2.1 x.2.2.2).2.2)
noncomputable def g32 : Spec := knownM fitPut ePR hPR resPut
theorem at32 (r : RfD) (k d : Str) (t : Int) (hk : k.length ≤ maxLen) (hr : fitR r) : g32 [.ptr 0 0, .str k, .str d, .int .i64 t] (rfH r) = some (resPut (r, k, d, t)) := knownM_at pr_inj (d := (r, k, d, t)) ⟨hk, hr⟩
theorem put_nil (m o c : Int) (k d : Str) (t : Int) : F32n.spec spR1 0 [.ptr 0 0, .str k, .str d, .int .i64 t] (rfH ⟨m, none, o, c⟩) = some (resPut (⟨m, none, o, c⟩, k, d, t)) := by
  refine spec_of rfl (bh_row rfl rfl) ?_
  refine ev_ask rfl rfl rfl ?_
  refine ev_ite rfl rfl (fun h => ?_) (fun h => ?_)
  · have h' : o > 0 := by simpa using h
    have e : putR ⟨m, none, o, c⟩ k d t = (104, ⟨m, none, IntKind.i64.wrap (o - 1), inc c⟩, false) := by simp only [putR, h', if_true]
    refine ev_ask rfl rfl rfl ?_
    exact (ev_ret rfl rfl).trans (by simp only [resPut, e]; rfl)
  · have h' : ¬ o > 0 := by simpa using h
    refine ev_pite rfl rfl (at44 k) (fun h2 => ?_) (fun h2 => ?_)
    · refine ev_ask rfl rfl rfl ?_
      refine ev_ite rfl rfl (fun h3 => ?_) (fun h3 => ?_)
      · have h3' : d.length > 65536 := by simp at h3; omega
        have e : putR ⟨m, none, o, c⟩ k d t = (100, ⟨m, none, o, inc c⟩, false) := by simp only [putR, h', h3', if_false, true_or, or_true, if_true]
        exact (ev_ret rfl rfl).trans (by simp only [resPut, e]; rfl)
      · have h3' : ¬ d.length > 65536 := by simp at h3; omega
        refine ev_ite rfl rfl (fun h4 => ?_) (fun h4 => ?_)
        · have h4' : t < 0 := by simpa using h4
          have e : putR ⟨m, none, o, c⟩ k d t = (100, ⟨m, none, o, inc c⟩, false) := by simp only [putR, h', h4', if_false, or_true, if_true]
          exact (ev_ret rfl rfl).trans (by simp only [resPut, e]; rfl)
        · have h4' : ¬ t < 0 := by simpa using h4
          have hc : ¬ (keyOk k = false ∨ d.length > 65536 ∨ t < 0) := by simp [h2, h3', h4']
          refine ev_ite rfl rfl (fun h5 => ?_) (fun h5 => ?_)
          · have h5' : (([] : List EntS).length : Int) ≥ m := by simpa using h5
            have e : putR ⟨m, none, o, c⟩ k d t = (103, ⟨m, none, o, inc c⟩, false) := by
              simp only [putR, h', hc, if_false, osL, placeL, Bool.false_eq_true]
              rw [if_pos h5']
            exact (ev_ret rfl rfl).trans (by simp only [resPut, e]; rfl)
          · have h5' : ¬ (([] : List EntS).length : Int) ≥ m := by simpa using h5
            have e : putR ⟨m, none, o, c⟩ k d t = (0, ⟨m, some ([(k, d, t)], none), o, inc c⟩, true) := by
              simp only [putR, h', hc, if_false, osL, placeL, Bool.false_eq_true]
              rw [if_neg h5']
              rfl
            exact (ev_ret rfl rfl).trans (by simp only [resPut, e]; rfl)
    · have e : putR ⟨m, none, o, c⟩ k d t = (100, ⟨m, none, o, inc c⟩, false) := by simp only [putR, h', h2, if_false, true_or, if_true]
      exact (ev_ret rfl rfl).trans (by simp only [resPut, e]; rfl)
end Go.Proofs.BoatV

/- The reference's store: contracts: Put, Get, Delete, Fail. Printed by gen_r4.py. -/
namespace Go.Proofs.BoatV
open Go
set_option linter.unusedVariables false
section
variable {sp : Sps} {next : Nat → List AV → List AO → Option (AV × Heap)} {ρ ρ' ρ'' : List AV} {ω ω' : List AO} {key : HKey} {args l : List AV} {y n : Tr} {R : Option (AV × Heap)} {v res : AV} {H H' h h' : Heap}
theorem ev_hopN (h1 : instL (nm ρ ω) args = some l) (h2 : instH (nm ρ ω) H = some h) (h3 : opH key l h = some (v, h')) (h4 : bindV res v ρ = none) (hn : n.eval sp next ρ ω = R) : (Tr.hop key args H res H' y n).eval sp next ρ ω = R := by
  simp only [Tr.eval, h1, h2, h3, h4]; exact hn
theorem ev_hopN2 (h1 : instL (nm ρ ω) args = some l) (h2 : instH (nm ρ ω) H = some h) (h3 : opH key l h = some (v, h')) (h4 : bindV res v ρ = some ρ') (h5 : bindH H' h' ρ' ω = none) (hn : n.eval sp next ρ ω = R) : (Tr.hop key args H res H' y n).eval sp next ρ ω = R := by
  simp only [Tr.eval, h1, h2, h3, h4, h5]; exact hn
end
theorem op_appO2 (o : List EntS) (e : EntS) (m : Nat) (hm : m = o.length) (h : o.length ≤ 2000000000000) : opH (.app 3 40) [.sl 0 0 m 3 none, .sl 1 0 1 3 (some 1)] [.row (rowO o), .row [.str e.1, .str e.2.1, .int .i64 e.2.2]] =
    some (.sl 2 0 (m + 1) 3 none, [.dead, .row [.str e.1, .str e.2.1, .int .i64 e.2.2], .row (rowO (o ++ [e]))]) := by
  subst hm; exact op_appO o e h
theorem op_app32 (A O : List EntS) (k n m m' : Nat) (cap : Option Nat) (N : List EntS) (hm : m = A.length) (hm' : m' = N.length) (hN : A ++ O.drop k = N) (hn : n = O.length) (h : k < n) (hb : A.length + O.length ≤ 3000000000000) : opH (.app 3 40) [.sl 0 0 m 3 none, .sl 1 (0 + k * 3) (n - k) 3 cap] [.row (rowO A), .row (rowO O)] = some (.sl 2 0 m' 3 none, [.dead, .row (rowO O), .row (rowO N)]) := by
  have := op_app3 A O k n cap hn h hb
  have e : m' = A.length + (n - k) := by rw [hm', ← hN, hn]; simp
  rw [hm, e, ← hN]; exact this
theorem op_app3e2 (A O : List EntS) (m : Nat) (hm : m = A.length) : opH (.app 3 40) [.sl 0 0 m 3 none, .im [] 3] [.row (rowO A), .row (rowO O)] = some (.sl 0 0 m 3 none, [.row (rowO A), .row (rowO O)]) := by
  subst hm; exact op_app3e A O
theorem placeL_le (k : Str) : ∀ (l : List EntS) (i : Nat), (placeL k l i).1 ≤ i + l.length
  | [], i => by simp [placeL]
  | e :: r, i => by
    have ih := placeL_le k r (i + 1)
    simp only [placeL, List.length_cons]
    split
    · omega
    · split
      · omega
      · omega
theorem placeL_true {k : Str} : ∀ {l : List EntS} {i j : Nat}, placeL k l i = (j, true) → ∃ e, l[j - i]? = some e ∧ e.1 = k ∧ i ≤ j
  | [], i, j, h => by simp [placeL] at h
  | e :: r, i, j, h => by
    simp only [placeL] at h
    split at h
    · rename_i he
      simp at h; subst h
      exact ⟨e, by simp, he, Nat.le_refl _⟩
    · split at h
      · obtain ⟨x, h1, h2, h3⟩ := placeL_true h
        refine ⟨x, ?_, h2, by omega⟩
        rw [show j - i = (j - (i + 1)) + 1 by omega]
        simpa using h1
      · simp at h

set_option maxHeartbeats 2000000 in
theorem put_own (m : Int) (os : List EntS) (cap : Option Nat) (o c : Int) (k d : Str) (t : Int) (hk : k.length ≤ maxLen) (ho : ∀ e ∈ os, e.1.length ≤ maxLen) (hn : os.length ≤ 1099511627776) : F32o.spec spR1 0 [.ptr 0 0, .str k, .str d, .int .i64 t] (rfH ⟨m, some (os, cap), o, c⟩) = some (resPut (⟨m, some (os, cap), o, c⟩, k, d, t)) := by
  refine spec_of rfl (bh_row rfl (bh_hid (clR os) rfl rfl)) ?_
  refine ev_ask rfl rfl rfl ?_
  refine ev_ite rfl rfl (fun h => ?_) (fun h => ?_)
  · have h' : o > 0 := by simpa using h
    have e : putR ⟨m, some (os, cap), o, c⟩ k d t = (104, ⟨m, some (os, cap), IntKind.i64.wrap (o - 1), inc c⟩, false) := by simp only [putR, h', if_true]
    refine ev_ask rfl rfl rfl ?_
    exact (ev_ret rfl (ih_row rfl (ih_hid (clR _) rfl rfl))).trans (by simp only [resPut, e]; rfl)
  · have h' : ¬ o > 0 := by simpa using h
    refine ev_pite rfl rfl (at44 k) (fun h2 => ?_) (fun h2 => ?_)
    · refine ev_ask rfl rfl rfl ?_
      refine ev_ite rfl rfl (fun h3 => ?_) (fun h3 => ?_)
      · have h3' : d.length > 65536 := by simp at h3; omega
        have e : putR ⟨m, some (os, cap), o, c⟩ k d t = (100, ⟨m, some (os, cap), o, inc c⟩, false) := by simp only [putR, h', h3', if_false, true_or, or_true, if_true]
        exact (ev_ret rfl (ih_row rfl (ih_hid (clR _) rfl rfl))).trans (by simp only [resPut, e]; rfl)
      · have h3' : ¬ d.length > 65536 := by simp at h3; omega
        refine ev_ite rfl rfl (fun h4 => ?_) (fun h4 => ?_)
        · have h4' : t < 0 := by simpa using h4
          have e : putR ⟨m, some (os, cap), o, c⟩ k d t = (100, ⟨m, some (os, cap), o, inc c⟩, false) := by simp only [putR, h', h4', if_false, or_true, if_true]
          exact (ev_ret rfl (ih_row rfl (ih_hid (clR _) rfl rfl))).trans (by simp only [resPut, e]; rfl)
        · have h4' : ¬ t < 0 := by simpa using h4
          have hc : ¬ (keyOk k = false ∨ d.length > 65536 ∨ t < 0) := by simp [h2, h3', h4']
          have A45 := at45 m os cap o (inc c) k hk ho hn
          have hle := placeL_le k os 0
          cases hp : placeL k os 0 with
          | mk i b =>
          rw [hp] at A45 hle
          simp only [Nat.zero_add] at hle
          simp only [List.cons_append, List.nil_append]
          cases b with
          | true =>
            have e : putR ⟨m, some (os, cap), o, c⟩ k d t = (101, ⟨m, some (os, cap), o, inc c⟩, false) := by simp only [putR, h', hc, if_false, osL, hp, if_true]
            refine ev_pcall (f := 45) (sp := spR1) rfl (ih_row rfl (ih_hid (clR _) rfl rfl)) A45 rfl ?_
            exact (ev_ret rfl (ih_row rfl (ih_hid (clR _) rfl rfl))).trans (by simp only [resPut, e]; rfl)
          | false =>
            refine ev_pcallN (f := 45) (sp := spR1) rfl (ih_row rfl (ih_hid (clR _) rfl rfl)) A45 rfl ?_
            refine ev_pcall (f := 45) (sp := spR1) rfl (ih_row rfl (ih_hid (clR _) rfl rfl)) A45 rfl ?_
            refine ev_ask rfl rfl rfl ?_
            simp only [List.cons_append, List.nil_append]
            refine ev_ite rfl rfl (fun h5 => ?_) (fun h5 => ?_)
            · have h5' : (os.length : Int) ≥ m := by simpa using h5
              have e : putR ⟨m, some (os, cap), o, c⟩ k d t = (103, ⟨m, some (os, cap), o, inc c⟩, false) := by
                simp only [putR, h', hc, if_false, osL, hp, Bool.false_eq_true]
                rw [if_pos h5']
              exact (ev_ret rfl (ih_row rfl (ih_hid (clR _) rfl rfl))).trans (by simp only [resPut, e]; rfl)
            · have h5' : ¬ (os.length : Int) ≥ m := by simpa using h5
              have e : putR ⟨m, some (os, cap), o, c⟩ k d t = (0, ⟨m, some (insL os i (k, d, t), none), o, inc c⟩, true) := by
                simp only [putR, h', hc, if_false, osL, hp, Bool.false_eq_true]
                rw [if_neg h5']
              have hres : resPut (⟨m, some (os, cap), o, c⟩, k, d, t) = (.int .i64 0, [rfR 2 m (some (insL os i (k, d, t), none)) o (inc c), .row (rowO os), .row (rowO (insL os i (k, d, t)))]) := by
                simp only [resPut, e]; rfl
              rw [hres]
              have hins : (os.take i ++ [(k, d, t)]) ++ os.drop i = insL os i (k, d, t) := by simp [insL]
              have hIl : (insL os i (k, d, t)).length = os.length + 1 := by simp [insL]; omega
              refine ev_ask rfl (op_slcTo os.length i cap hle) rfl ?_
              simp only [List.cons_append, List.nil_append]
              rcases Nat.eq_zero_or_pos i with hi0 | hi0
              · subst hi0
                refine ev_hopN2 rfl (ih_hid (clR os) rfl rfl) (op_app1z os cap) rfl (bh_hid (clR _) rfl rfl) ?_
                refine ev_hop rfl (ih_hid (clR os) rfl rfl) (op_app1z os cap) rfl (bh_hid (clR _) rfl rfl) ?_
                simp only [List.cons_append, List.nil_append]
                rcases Nat.eq_zero_or_pos os.length with hl0 | hl0
                · have hnil : os = [] := List.length_eq_zero_iff.1 hl0
                  subst hnil
                  refine ev_ask rfl (op_slcNil cap) rfl ?_
                  simp only [List.cons_append, List.nil_append]
                  refine ev_hopN rfl (ih_row rfl (ih_hid (clR []) rfl rfl)) (op_app3z [(k, d, t)] [] cap) rfl ?_
                  refine ev_hop rfl (ih_row rfl (ih_hid (clR []) rfl rfl)) (op_app3z [(k, d, t)] [] cap) rfl (bh_row rfl (bh_hid (clR _) rfl rfl)) ?_
                  simp only [List.cons_append, List.nil_append]
                  exact ev_ret rfl (ih_row rfl (ih_hid (clR _) rfl (ih_row rfl rfl)))
                · refine ev_ask rfl (op_slcFrom os.length 0 cap hl0) rfl ?_
                  simp only [List.cons_append, List.nil_append]
                  refine ev_hop rfl (ih_row rfl (ih_hid (clR os) rfl rfl)) (op_app32 [(k, d, t)] os 0 os.length 1 (insL os 0 (k, d, t)).length _ (insL os 0 (k, d, t)) rfl rfl hins rfl hl0 (by simp; omega)) rfl (bh_dead (bh_hid (clR _) rfl (bh_hid (clR _) rfl rfl))) ?_
                  simp only [List.cons_append, List.nil_append]
                  exact ev_ret rfl (ih_row rfl (ih_hid (clR _) rfl (ih_hid (clR _) rfl rfl)))
              · have htl : i = (os.take i).length := by simp; omega
                refine ev_hop rfl (ih_hid (clR os) rfl rfl) (op_app1 os i cap hi0 hle (by omega)) rfl (bh_hid (clR _) rfl (bh_hid (clR _) rfl rfl)) ?_
                simp only [List.cons_append, List.nil_append]
                refine ev_hop rfl (ih_hid (clR (os.take i)) rfl (ih_row rfl rfl)) (op_appO2 (os.take i) (k, d, t) i htl (by simp; omega)) rfl (bh_dead (bh_row rfl (bh_hid (clR _) rfl rfl))) ?_
                simp only [List.cons_append, List.nil_append]
                have htl2 : i + 1 = (os.take i ++ [(k, d, t)]).length := by simp; omega
                rcases Nat.lt_or_ge i os.length with hil | hil
                · refine ev_ask rfl (op_slcFrom os.length i cap hil) rfl ?_
                  simp only [List.cons_append, List.nil_append]
                  refine ev_hop rfl (ih_hid (clR (os.take i ++ [(k, d, t)])) rfl (ih_hid (clR os) rfl rfl)) (op_app32 (os.take i ++ [(k, d, t)]) os i os.length (i + 1) (insL os i (k, d, t)).length _ (insL os i (k, d, t)) htl2 rfl hins rfl hil (by simp; omega)) rfl (bh_dead (bh_hid (clR _) rfl (bh_hid (clR _) rfl rfl))) ?_
                  simp only [List.cons_append, List.nil_append]
                  exact ev_ret rfl (ih_row rfl (ih_hid (clR _) rfl (ih_hid (clR _) rfl rfl)))
                · obtain rfl : i = os.length := by omega
                  have hI2 : os.take os.length ++ [(k, d, t)] = insL os os.length (k, d, t) := by simp [insL]
                  rw [hI2] at htl2
                  rw [hI2]
                  refine ev_ask rfl (op_slcEnd os.length cap hi0) rfl ?_
                  simp only [List.cons_append, List.nil_append]
                  refine ev_hopN rfl (ih_hid (clR _) rfl (ih_hid (clR os) rfl rfl)) (op_app3e2 (insL os os.length (k, d, t)) os (os.length + 1) htl2) rfl ?_
                  refine ev_hop rfl (ih_hid (clR _) rfl (ih_hid (clR os) rfl rfl)) (op_app3e2 (insL os os.length (k, d, t)) os (os.length + 1) htl2) rfl (bh_hid (clR _) rfl (bh_hid (clR _) rfl rfl)) ?_
                  simp only [List.cons_append, List.nil_append]
                  rw [← hIl]
                  exact ev_ret rfl (ih_row rfl (ih_hid (clR _) rfl (ih_hid (clR _) rfl rfl)))
    · have e : putR ⟨m, some (os, cap), o, c⟩ k d t = (100, ⟨m, some (os, cap), o, inc c⟩, false) := by simp only [putR, h', h2, if_false, true_or, if_true]
      exact (ev_ret rfl (ih_row rfl (ih_hid (clR _) rfl rfl))).trans (by simp only [resPut, e]; rfl)
theorem k32 : SpecB Tryd.prog 32 g32 := knownM_spec fun x hx => by
  obtain ⟨⟨m, sh, o, c⟩, k, d, t⟩ := x
  obtain ⟨h1, h2, h3⟩ := hx
  match sh, h2, h3 with
  | none, _, _ => exact ⟨_, F32n_spec spR1_ok 0, put_nil m o c k d t⟩
  | some (os, cap), h2, h3 => exact ⟨_, F32o_spec spR1_ok 0, put_own m os cap o c k d t h1 h2 h3⟩


/-! ### Get -/
def getR (r : RfD) (k : Str) : (Str × Int) × RfD :=
  if r.owed > 0 then (([], 104), { r with calls := inc r.calls, owed := IntKind.i64.wrap (r.owed - 1) }) else
  if (placeL k (osL r.sh) 0).2 then (((((osL r.sh)[(placeL k (osL r.sh) 0).1]?).map (·.2.1)).getD [], 0), { r with calls := inc r.calls }) else (([], 102), { r with calls := inc r.calls })
def resGet (x : PR) : AV × Heap := (.tup [.str (getR x.1 x.2).1.1, .int .i64 (getR x.1 x.2).1.2], rfH2 x.1.sh (getR x.1 x.2).2 false)
def fitGet (x : PR) : Prop := x.2.length ≤ maxLen ∧ fitR x.1
noncomputable def g33 : Spec := knownM fitGet ePl hPl resGet
theorem at33 (r : RfD) (k : Str) (hk : k.length ≤ maxLen) (hr : fitR r) : g33 [.ptr 0 0, .str k] (rfH r) = some (resGet (r, k)) := knownM_at pl_inj (d := (r, k)) ⟨hk, hr⟩
theorem k33 : SpecB Tryd.prog 33 g33 := knownM_spec fun x hx => by
  obtain ⟨⟨m, sh, o, c⟩, k⟩ := x
  obtain ⟨h1, h2, h3⟩ := hx
  match sh, h2, h3 with
  | none, _, _ =>
    refine ⟨_, F33n_spec spR1_ok 0, ?_⟩
    refine spec_of rfl (bh_row rfl rfl) ?_
    refine ev_ask rfl rfl rfl ?_
    refine ev_ite rfl rfl (fun h => ?_) (fun h => ?_)
    · have h' : o > 0 := by simpa using h
      have e : getR ⟨m, none, o, c⟩ k = (([], 104), ⟨m, none, IntKind.i64.wrap (o - 1), inc c⟩) := by simp only [getR, h', if_true]
      refine ev_ask rfl rfl rfl ?_
      exact (ev_ret rfl rfl).trans (by simp only [resGet, e]; rfl)
    · have h' : ¬ o > 0 := by simpa using h
      have e : getR ⟨m, none, o, c⟩ k = (([], 102), ⟨m, none, o, inc c⟩) := by simp only [getR, h', if_false, osL, placeL, Bool.false_eq_true]
      exact (ev_ret rfl rfl).trans (by simp only [resGet, e]; rfl)
  | some (os, cap), h2, h3 =>
    refine ⟨_, F33o_spec spR1_ok 0, ?_⟩
    refine spec_of rfl (bh_row rfl (bh_hid (clR os) rfl rfl)) ?_
    refine ev_ask rfl rfl rfl ?_
    refine ev_ite rfl rfl (fun h => ?_) (fun h => ?_)
    · have h' : o > 0 := by simpa using h
      have e : getR ⟨m, some (os, cap), o, c⟩ k = (([], 104), ⟨m, some (os, cap), IntKind.i64.wrap (o - 1), inc c⟩) := by simp only [getR, h', if_true]
      refine ev_ask rfl rfl rfl ?_
      exact (ev_ret rfl (ih_row rfl (ih_hid (clR _) rfl rfl))).trans (by simp only [resGet, e]; rfl)
    · have h' : ¬ o > 0 := by simpa using h
      have A45 := at45 m os cap o (inc c) k h1 h2 h3
      cases hp : placeL k os 0 with
      | mk i b =>
      rw [hp] at A45
      simp only [List.cons_append, List.nil_append]
      cases b with
      | true =>
        obtain ⟨x, hx, hxk, _⟩ := placeL_true hp
        rw [Nat.sub_zero] at hx
        have hi : i < os.length := (List.getElem?_eq_some_iff.1 hx).1
        have e : getR ⟨m, some (os, cap), o, c⟩ k = ((x.2.1, 0), ⟨m, some (os, cap), o, inc c⟩) := by simp only [getR, h', if_false, osL, hp, if_true, hx, Option.map_some, Option.getD_some]
        refine ev_pcall (f := 45) (sp := spR1) rfl (ih_row rfl (ih_hid (clR _) rfl rfl)) A45 rfl ?_
        refine ev_ask rfl (op_idxC 1 os.length i cap hi) rfl ?_
        refine ev_ask rfl rfl rfl ?_
        simp only [List.cons_append, List.nil_append]
        refine ev_phop rfl (ih_hid (clR os) rfl rfl) (op_loadO os i 1 x (.str x.2.1) hx (by omega) rfl) rfl ?_
        exact (ev_ret rfl (ih_row rfl (ih_hid (clR _) rfl rfl))).trans (by simp only [resGet, e]; rfl)
      | false =>
        have e : getR ⟨m, some (os, cap), o, c⟩ k = (([], 102), ⟨m, some (os, cap), o, inc c⟩) := by simp only [getR, h', if_false, osL, hp, Bool.false_eq_true]
        refine ev_pcallN (f := 45) (sp := spR1) rfl (ih_row rfl (ih_hid (clR _) rfl rfl)) A45 rfl ?_
        refine ev_pcall (f := 45) (sp := spR1) rfl (ih_row rfl (ih_hid (clR _) rfl rfl)) A45 rfl ?_
        exact (ev_ret rfl (ih_row rfl (ih_hid (clR _) rfl rfl))).trans (by simp only [resGet, e]; rfl)

/-! ### Delete -/
def delL (os : List EntS) (i : Nat) : List EntS := os.take i ++ os.drop (i + 1)
def shO (l : List EntS) : ShO := if l = [] then none else some (l, none)
def delR (r : RfD) (k : Str) : Int × RfD × Bool :=
  if r.owed > 0 then (104, { r with calls := inc r.calls, owed := IntKind.i64.wrap (r.owed - 1) }, false) else
  if (placeL k (osL r.sh) 0).2 then (0, { r with calls := inc r.calls, sh := shO (delL (osL r.sh) (placeL k (osL r.sh) 0).1) }, true) else (102, { r with calls := inc r.calls }, false)
def resDel (x : PR) : AV × Heap := (.int .i64 (delR x.1 x.2).1, rfH2 x.1.sh (delR x.1 x.2).2.1 (delR x.1 x.2).2.2)
noncomputable def g35 : Spec := knownM fitGet ePl hPl resDel
theorem at35 (r : RfD) (k : Str) (hk : k.length ≤ maxLen) (hr : fitR r) : g35 [.ptr 0 0, .str k] (rfH r) = some (resDel (r, k)) := knownM_at pl_inj (d := (r, k)) ⟨hk, hr⟩
theorem op_app1s (O : List EntS) (k n m' : Nat) (cap : Option Nat) (N : List EntS) (hm' : m' = N.length) (hN : O.drop k = N) (hn : n = O.length) (h : k < n) (hb : O.length ≤ 2000000000000) : opH (.app 3 40) [.snil, .sl 0 (0 + k * 3) (n - k) 3 cap] [.row (rowO O)] = some (.sl 1 0 m' 3 none, [.row (rowO O), .row (rowO N)]) := by
  subst hn
  have h1 : 0 + k * 3 + (O.length - k) * 3 ≤ (rowO O).length := by rw [rowO_length]; omega
  have h2 : (O.length - k) * 40 ≤ 140737488355328 := by omega
  have h3 : ¬ O.length - k = 0 := by omega
  have h4 : ((rowO O).drop (0 + k * 3)).take ((O.length - k) * 3) = rowO (O.drop k) := by
    rw [Nat.zero_add, rowO_drop, rowO_take]
    congr 1
    rw [List.take_of_length_le (by simp)]
  have e : m' = O.length - k := by rw [hm', ← hN]; simp
  simp only [opH, srcK, rowAt, List.getElem?_cons_zero, h1, and_self, if_true, h4, allOne_rowO, h3, if_false, h2, grownA, List.length_singleton, List.nil_append, true_and, e, hN]
  rfl
theorem op_app1e (O : List EntS) : opH (.app 3 40) [.snil, .im [] 3] [.row (rowO O)] = some (.snil, [.row (rowO O)]) := by
  simp [opH, srcK, allOne]
set_option maxHeartbeats 2000000 in
theorem k35 : SpecB Tryd.prog 35 g35 := knownM_spec fun x hx => by
  obtain ⟨⟨m, sh, o, c⟩, k⟩ := x
  obtain ⟨h1, h2, h3⟩ := hx
  match sh, h2, h3 with
  | none, _, _ =>
    refine ⟨_, F35n_spec spR1_ok 0, ?_⟩
    refine spec_of rfl (bh_row rfl rfl) ?_
    refine ev_ask rfl rfl rfl ?_
    refine ev_ite rfl rfl (fun h => ?_) (fun h => ?_)
    · have h' : o > 0 := by simpa using h
      have e : delR ⟨m, none, o, c⟩ k = (104, ⟨m, none, IntKind.i64.wrap (o - 1), inc c⟩, false) := by simp only [delR, h', if_true]
      refine ev_ask rfl rfl rfl ?_
      exact (ev_ret rfl rfl).trans (by simp only [resDel, e]; rfl)
    · have h' : ¬ o > 0 := by simpa using h
      have e : delR ⟨m, none, o, c⟩ k = (102, ⟨m, none, o, inc c⟩, false) := by simp only [delR, h', if_false, osL, placeL, Bool.false_eq_true]
      exact (ev_ret rfl rfl).trans (by simp only [resDel, e]; rfl)
  | some (os, cap), h2, h3 =>
    have h3 : os.length ≤ 1099511627776 := h3
    refine ⟨_, F35o_spec spR1_ok 0, ?_⟩
    refine spec_of rfl (bh_row rfl (bh_hid (clR os) rfl rfl)) ?_
    refine ev_ask rfl rfl rfl ?_
    refine ev_ite rfl rfl (fun h => ?_) (fun h => ?_)
    · have h' : o > 0 := by simpa using h
      have e : delR ⟨m, some (os, cap), o, c⟩ k = (104, ⟨m, some (os, cap), IntKind.i64.wrap (o - 1), inc c⟩, false) := by simp only [delR, h', if_true]
      refine ev_ask rfl rfl rfl ?_
      exact (ev_ret rfl (ih_row rfl (ih_hid (clR _) rfl rfl))).trans (by simp only [resDel, e]; rfl)
    · have h' : ¬ o > 0 := by simpa using h
      have A45 := at45 m os cap o (inc c) k h1 h2 h3
      cases hp : placeL k os 0 with
      | mk i b =>
      rw [hp] at A45
      simp only [List.cons_append, List.nil_append]
      cases b with
      | true =>
        obtain ⟨x, hx, hxk, _⟩ := placeL_true hp
        rw [Nat.sub_zero] at hx
        have hi : i < os.length := (List.getElem?_eq_some_iff.1 hx).1
        have e : delR ⟨m, some (os, cap), o, c⟩ k = (0, ⟨m, shO (delL os i), o, inc c⟩, true) := by simp only [delR, h', if_false, osL, hp, if_true]
        have hdl : (delL os i).length = os.length - 1 := by simp [delL]; omega
        have w1 := i64_inc i (by omega)
        refine ev_pcall (f := 45) (sp := spR1) rfl (ih_row rfl (ih_hid (clR _) rfl rfl)) A45 rfl ?_
        refine ev_ask rfl (op_slcTo os.length i cap (by omega)) rfl ?_
        simp only [List.cons_append, List.nil_append]
        rcases Nat.eq_zero_or_pos i with hi0 | hi0
        · subst hi0
          refine ev_hopN2 rfl (ih_hid (clR os) rfl rfl) (op_app1z os cap) rfl (bh_hid (clR _) rfl rfl) ?_
          refine ev_hop rfl (ih_hid (clR os) rfl rfl) (op_app1z os cap) rfl (bh_hid (clR _) rfl rfl) ?_
          simp only [List.cons_append, List.nil_append]
          refine ev_ask rfl (v := .int .i64 ((1 : Nat) : Int)) rfl rfl ?_
          rcases Nat.lt_or_ge 1 os.length with hl | hl
          · have hne : ¬ delL os 0 = [] := fun h => by rw [h] at hdl; simp at hdl; omega
            have hres : resDel (⟨m, some (os, cap), o, c⟩, k) = (.int .i64 0, [rfR 2 m (some (delL os 0, none)) o (inc c), .row (rowO os), .row (rowO (delL os 0))]) := by
              simp only [resDel, e, shO, if_neg hne]; rfl
            rw [hres]
            refine ev_ask rfl (op_slcFrom os.length 1 cap hl) rfl ?_
            simp only [List.cons_append, List.nil_append]
            refine ev_hop rfl (ih_hid (clR os) rfl rfl) (op_app1s os 1 os.length (delL os 0).length _ (delL os 0) rfl (by simp [delL]) rfl hl (by omega)) rfl (bh_hid (clR _) rfl (bh_hid (clR _) rfl rfl)) ?_
            simp only [List.cons_append, List.nil_append]
            exact ev_ret rfl (ih_row rfl (ih_hid (clR _) rfl (ih_hid (clR _) rfl rfl)))
          · have hl1 : os.length = 1 := by omega
            have hnil : delL os 0 = [] := List.length_eq_zero_iff.1 (by omega)
            have hres : resDel (⟨m, some (os, cap), o, c⟩, k) = (.int .i64 0, [rfR 2 m none o (inc c), .row (rowO os)]) := by
              simp only [resDel, e, shO, if_pos hnil]; rfl
            rw [hres]
            have A := op_slcEnd os.length cap (by omega)
            rw [hl1] at A
            rw [hl1]
            refine ev_ask rfl A rfl ?_
            simp only [List.cons_append, List.nil_append]
            refine ev_hopN2 rfl (ih_hid (clR os) rfl rfl) (op_app1e os) rfl (bh_hid (clR _) rfl rfl) ?_
            refine ev_hop rfl (ih_hid (clR os) rfl rfl) (op_app1e os) rfl (bh_hid (clR _) rfl rfl) ?_
            simp only [List.cons_append, List.nil_append]
            exact ev_ret rfl (ih_row rfl (ih_hid (clR _) rfl rfl))
        · have htl : i = (os.take i).length := by simp; omega
          have hne : ¬ delL os i = [] := fun h => by rw [h] at hdl; simp at hdl; omega
          have hres : resDel (⟨m, some (os, cap), o, c⟩, k) = (.int .i64 0, [rfR 2 m (some (delL os i, none)) o (inc c), .row (rowO os), .row (rowO (delL os i))]) := by
            simp only [resDel, e, shO, if_neg hne]; rfl
          rw [hres]
          refine ev_hop rfl (ih_hid (clR os) rfl rfl) (op_app1 os i cap hi0 (by omega) (by omega)) rfl (bh_hid (clR _) rfl (bh_hid (clR _) rfl rfl)) ?_
          simp only [List.cons_append, List.nil_append]
          refine ev_ask rfl (v := .int .i64 ((i + 1 : Nat) : Int)) (by simp only [opK, intK, if_true]; rw [w1]) rfl ?_
          rcases Nat.lt_or_ge (i + 1) os.length with hl | hl
          · refine ev_ask rfl (op_slcFrom os.length (i + 1) cap hl) rfl ?_
            simp only [List.cons_append, List.nil_append]
            refine ev_hop rfl (ih_hid (clR (os.take i)) rfl (ih_hid (clR os) rfl rfl)) (op_app32 (os.take i) os (i + 1) os.length i (delL os i).length _ (delL os i) htl rfl rfl rfl hl (by simp; omega)) rfl (bh_dead (bh_hid (clR _) rfl (bh_hid (clR _) rfl rfl))) ?_
            simp only [List.cons_append, List.nil_append]
            exact ev_ret rfl (ih_row rfl (ih_hid (clR _) rfl (ih_hid (clR _) rfl rfl)))
          · have hl1 : i + 1 = os.length := by omega
            have hD : os.take i = delL os i := by simp only [delL]; rw [List.drop_eq_nil_of_le (by omega), List.append_nil]
            have A := op_slcEnd os.length cap (by omega)
            rw [← hl1] at A ⊢
            rw [hD] at htl ⊢
            refine ev_ask rfl A rfl ?_
            simp only [List.cons_append, List.nil_append]
            refine ev_hopN rfl (ih_hid (clR _) rfl (ih_hid (clR os) rfl rfl)) (op_app3e2 (delL os i) os i htl) rfl ?_
            refine ev_hop rfl (ih_hid (clR _) rfl (ih_hid (clR os) rfl rfl)) (op_app3e2 (delL os i) os i htl) rfl (bh_hid (clR _) rfl (bh_hid (clR _) rfl rfl)) ?_
            simp only [List.cons_append, List.nil_append]
            refine (ev_ret rfl (ih_row rfl (ih_hid (clR _) rfl (ih_hid (clR _) rfl rfl)))).trans ?_
            simp only [rfR, osA, ← htl]
            rfl
      | false =>
        have e : delR ⟨m, some (os, cap), o, c⟩ k = (102, ⟨m, some (os, cap), o, inc c⟩, false) := by simp only [delR, h', if_false, osL, hp, Bool.false_eq_true]
        refine ev_pcallN (f := 45) (sp := spR1) rfl (ih_row rfl (ih_hid (clR _) rfl rfl)) A45 rfl ?_
        refine ev_pcall (f := 45) (sp := spR1) rfl (ih_row rfl (ih_hid (clR _) rfl rfl)) A45 rfl ?_
        exact (ev_ret rfl (ih_row rfl (ih_hid (clR _) rfl rfl))).trans (by simp only [resDel, e]; rfl)

/-! ### Fail -/
def failR (r : RfD) (n : Int) : Int × RfD := if n < 0 then (100, r) else (0, { r with owed := n })
abbrev PN := RfD × Int
def ePN (x : PN) : List AV := [.ptr 0 0, .int .i64 x.2]
def hPN (x : PN) : Heap := rfH x.1
theorem pn_inj (d e : PN) (h : ePN d = ePN e) (h2 : hPN d = hPN e) : d = e := by
  obtain ⟨a, b⟩ := d; obtain ⟨a', b'⟩ := e
  have h3 := rfH_inj h2
  simp [ePN] at h
  simp at h3
  simp [h, h3]
def resFail (x : PN) : AV × Heap := (.int .i64 (failR x.1 x.2).1, rfH2 x.1.sh (failR x.1 x.2).2 false)
noncomputable def g36 : Spec := knownM (fun _ => True) ePN hPN resFail
theorem at36 (r : RfD) (n : Int) : g36 [.ptr 0 0, .int .i64 n] (rfH r) = some (resFail (r, n)) := knownM_at pn_inj (d := (r, n)) trivial
theorem k36 : SpecB Tryd.prog 36 g36 := knownM_spec fun x _ => by
  obtain ⟨⟨m, sh, o, c⟩, n⟩ := x
  match sh with
  | none =>
    refine ⟨_, F36n_spec spR1_ok 0, ?_⟩
    refine spec_of rfl (bh_row rfl rfl) ?_
    refine ev_ite rfl rfl (fun h => ?_) (fun h => ?_)
    · have h' : n < 0 := by simpa using h
      exact (ev_ret rfl rfl).trans (by simp only [resFail, failR, h', if_true]; rfl)
    · have h' : ¬ n < 0 := by simpa using h
      exact (ev_ret rfl rfl).trans (by simp only [resFail, failR, h', if_false]; rfl)
  | some (os, cap) =>
    refine ⟨_, F36o_spec spR1_ok 0, ?_⟩
    refine spec_of rfl (bh_row rfl (bh_hid (clR os) rfl rfl)) ?_
    refine ev_ite rfl rfl (fun h => ?_) (fun h => ?_)
    · have h' : n < 0 := by simpa using h
      exact (ev_ret rfl (ih_row rfl (ih_hid (clR _) rfl rfl))).trans (by simp only [resFail, failR, h', if_true]; rfl)
    · have h' : ¬ n < 0 := by simpa using h
      exact (ev_ret rfl (ih_row rfl (ih_hid (clR _) rfl rfl))).trans (by simp only [resFail, failR, h', if_false]; rfl)
end Go.Proofs.BoatV

/- The reference's store: contracts: List, Copy; of objects: the same, spoiled. Printed by gen_r5.py. -/
namespace Go.Proofs.BoatV
open Go
set_option linter.unusedVariables false
/-! ### List -/
def outR (os : List EntS) (p : Str) : List EntS := (os.filter fun e => pre p e.1).map clrE
def listRR (r : RfD) (p : Str) : (Int × List EntS) × RfD :=
  if r.owed > 0 then ((104, []), { r with calls := inc r.calls, owed := IntKind.i64.wrap (r.owed - 1) }) else ((0, outR (osL r.sh) p), { r with calls := inc r.calls })
def resList (x : PR) : AV × Heap :=
  (.tup [osA (1 + (rowsO x.1.sh).length) (shO (listRR x.1 x.2).1.2), .int .i64 (listRR x.1 x.2).1.1], rfH2 x.1.sh (listRR x.1 x.2).2 false ++ rowsO (shO (listRR x.1 x.2).1.2))
noncomputable def g34 : Spec := knownM (fun x => fitR x.1) ePl hPl resList
theorem at34 (r : RfD) (p : Str) (hr : fitR r) : g34 [.ptr 0 0, .str p] (rfH r) = some (resList (r, p)) := knownM_at (fit := fun x : PR => fitR x.1) pl_inj (d := (r, p)) hr
theorem outR_pos {e : EntS} {l : List EntS} {p : Str} (h : pre p e.1 = true) : outR (e :: l) p = clrE e :: outR l p := by simp [outR, h]
theorem outR_neg {e : EntS} {l : List EntS} {p : Str} (h : pre p e.1 = false) : outR (e :: l) p = outR l p := by simp [outR, h]
theorem outR_len (l : List EntS) (p : Str) : (outR l p).length ≤ l.length := by simp only [outR, List.length_map]; exact List.length_filter_le _ _

set_option maxHeartbeats 2000000 in
theorem list1_go {os : List EntS} {cap : Option Nat} {m o c : Int} {p : Str} (hn : os.length ≤ 1099511627776) : ∀ (q i : Nat) (out : List EntS), os.length - i ≤ q → i ≤ os.length → out.length ≤ i →
    F34o.next spR1 (q + 1) 1 [.str p, .sl 0 0 out.length 3 none, .int .i64 i, .int .i64 m, .sl 0 0 os.length 3 cap, .int .i64 o, .int .i64 c] [.row (rowO os), .row (rowO out)] =
      some (.tup [.sl 2 0 (out ++ outR (os.drop i) p).length 3 none, .int .i64 0], [rfR 1 m (some (os, cap)) o c, .row (rowO os), .row (rowO (out ++ outR (os.drop i) p))]) := by
  have fin : ∀ (q i : Nat) (out : List EntS), i = os.length → F34o.next spR1 (q + 1) 1 [.str p, .sl 0 0 out.length 3 none, .int .i64 i, .int .i64 m, .sl 0 0 os.length 3 cap, .int .i64 o, .int .i64 c] [.row (rowO os), .row (rowO out)] =
      some (.tup [.sl 2 0 (out ++ outR (os.drop i) p).length 3 none, .int .i64 0], [rfR 1 m (some (os, cap)) o c, .row (rowO os), .row (rowO (out ++ outR (os.drop i) p))]) := by
    intro q i out hi
    subst hi
    rw [List.drop_length, show outR [] p = [] from rfl, List.append_nil]
    refine next_succ rfl ?_
    refine ev_ask rfl rfl rfl ?_
    refine ev_no rfl (op_lss (by simp)) ?_
    exact ev_ret rfl (ih_row rfl (ih_hid (clR _) rfl (ih_hid (clR _) rfl rfl)))
  intro q
  induction q with
  | zero => intro i out h1 h2 h3; exact fin 0 i out (by omega)
  | succ q ih =>
    intro i out h1 h2 h3
    rcases Nat.lt_or_ge i os.length with hi | hi
    · have he : os[i]? = some os[i] := List.getElem?_eq_getElem hi
      have hd := List.drop_eq_getElem_cons hi
      generalize os[i] = e at he hd
      rw [hd]
      refine next_succ rfl ?_
      refine ev_ask rfl rfl rfl ?_
      refine ev_yes rfl (op_lss (by simp; omega)) ?_
      refine ev_ask rfl (op_idxC 1 os.length i cap hi) rfl ?_
      refine ev_ask rfl rfl rfl ?_
      simp only [List.cons_append, List.nil_append]
      refine ev_phop rfl (ih_hid (clR os) rfl rfl) (op_loadO os i 0 e (.str e.1) he (by omega) rfl) rfl ?_
      simp only [List.cons_append, List.nil_append]
      refine ev_ask rfl rfl rfl ?_
      refine ev_ask rfl rfl rfl ?_
      simp only [List.cons_append, List.nil_append]
      by_cases hge : p.length ≤ e.1.length
      · refine ev_yes rfl (op_geq (by simpa using hge)) ?_
        refine ev_ask rfl (op_take e.1 p.length hge) rfl ?_
        simp only [List.cons_append, List.nil_append]
        by_cases hpr : List.take p.length e.1 = p
        · have hpre : pre p e.1 = true := by simp only [pre, hge, hpr, decide_true, beq_self_eq_true, Bool.and_self]
          rw [outR_pos hpre]
          refine ev_yes rfl (op_eqlS (beq_iff_eq.2 hpr)) ?_
          refine ev_ask rfl rfl rfl ?_
          simp only [List.cons_append, List.nil_append]
          refine ev_phop rfl (ih_hid (clR os) rfl rfl) (op_loadO os i 2 e (.int .i64 e.2.2) he (by omega) rfl) rfl ?_
          simp only [List.cons_append, List.nil_append]
          refine ev_hop rfl (ih_hid (clR out) rfl (ih_row rfl rfl)) (op_appO2 out (e.1, [], e.2.2) out.length rfl (by omega)) rfl (bh_dead (bh_row rfl (bh_hid (clR _) rfl rfl))) ?_
          simp only [List.cons_append, List.nil_append]
          refine ev_ask rfl rfl rfl ?_
          refine ev_goto rfl (ih_hid (clR _) rfl (ih_hid (clR _) rfl rfl)) ?_
          rw [i64_inc i (by omega)]
          have := ih (i + 1) (out ++ [clrE e]) (by omega) (by omega) (by simp; omega)
          simpa [clrE] using this
        · have hpre : pre p e.1 = false := by simp only [pre, Bool.and_eq_false_iff]; exact .inr (beq_eq_false_iff_ne.2 hpr)
          rw [outR_neg hpre]
          refine ev_no rfl (op_eqlS (beq_eq_false_iff_ne.2 hpr)) ?_
          refine ev_ask rfl rfl rfl ?_
          refine ev_goto rfl (ih_hid (clR _) rfl (ih_hid (clR _) rfl rfl)) ?_
          rw [i64_inc i (by omega)]
          exact ih (i + 1) out (by omega) (by omega) (by omega)
      · have hpre : pre p e.1 = false := by simp only [pre, Bool.and_eq_false_iff]; exact .inl (decide_eq_false hge)
        rw [outR_neg hpre]
        refine ev_no rfl (op_geq (by simpa using hge)) ?_
        refine ev_ask rfl rfl rfl ?_
        refine ev_goto rfl (ih_hid (clR _) rfl (ih_hid (clR _) rfl rfl)) ?_
        rw [i64_inc i (by omega)]
        exact ih (i + 1) out (by omega) (by omega) (by omega)
    · exact fin (q + 1) i out (by omega)

set_option maxHeartbeats 2000000 in
theorem list0_go {os : List EntS} {cap : Option Nat} {m o c : Int} {p : Str} (hn : os.length ≤ 1099511627776) : ∀ (q i : Nat), os.length - i ≤ q → i ≤ os.length →
    F34o.next spR1 (q + 2) 0 [.str p, .int .i64 i, .int .i64 m, .sl 0 0 os.length 3 cap, .int .i64 o, .int .i64 c] [.row (rowO os)] =
      some (.tup [osA 2 (shO (outR (os.drop i) p)), .int .i64 0], rfR 1 m (some (os, cap)) o c :: .row (rowO os) :: rowsO (shO (outR (os.drop i) p))) := by
  have fin : ∀ (q i : Nat), i = os.length → F34o.next spR1 (q + 2) 0 [.str p, .int .i64 i, .int .i64 m, .sl 0 0 os.length 3 cap, .int .i64 o, .int .i64 c] [.row (rowO os)] =
      some (.tup [osA 2 (shO (outR (os.drop i) p)), .int .i64 0], rfR 1 m (some (os, cap)) o c :: .row (rowO os) :: rowsO (shO (outR (os.drop i) p))) := by
    intro q i hi
    subst hi
    rw [List.drop_length]
    refine next_succ rfl ?_
    refine ev_ask rfl rfl rfl ?_
    refine ev_no rfl (op_lss (by simp)) ?_
    exact ev_ret rfl (ih_row rfl (ih_hid (clR _) rfl rfl))
  intro q
  induction q with
  | zero => intro i h1 h2; exact fin 0 i (by omega)
  | succ q ih =>
    intro i h1 h2
    rcases Nat.lt_or_ge i os.length with hi | hi
    · have he : os[i]? = some os[i] := List.getElem?_eq_getElem hi
      have hd := List.drop_eq_getElem_cons hi
      generalize os[i] = e at he hd
      rw [hd]
      refine next_succ rfl ?_
      refine ev_ask rfl rfl rfl ?_
      refine ev_yes rfl (op_lss (by simp; omega)) ?_
      refine ev_ask rfl (op_idxC 1 os.length i cap hi) rfl ?_
      refine ev_ask rfl rfl rfl ?_
      simp only [List.cons_append, List.nil_append]
      refine ev_phop rfl (ih_hid (clR os) rfl rfl) (op_loadO os i 0 e (.str e.1) he (by omega) rfl) rfl ?_
      simp only [List.cons_append, List.nil_append]
      refine ev_ask rfl rfl rfl ?_
      refine ev_ask rfl rfl rfl ?_
      simp only [List.cons_append, List.nil_append]
      by_cases hge : p.length ≤ e.1.length
      · refine ev_yes rfl (op_geq (by simpa using hge)) ?_
        refine ev_ask rfl (op_take e.1 p.length hge) rfl ?_
        simp only [List.cons_append, List.nil_append]
        by_cases hpr : List.take p.length e.1 = p
        · have hpre : pre p e.1 = true := by simp only [pre, hge, hpr, decide_true, beq_self_eq_true, Bool.and_self]
          rw [outR_pos hpre]
          refine ev_yes rfl (op_eqlS (beq_iff_eq.2 hpr)) ?_
          refine ev_ask rfl rfl rfl ?_
          simp only [List.cons_append, List.nil_append]
          refine ev_phop rfl (ih_hid (clR os) rfl rfl) (op_loadO os i 2 e (.int .i64 e.2.2) he (by omega) rfl) rfl ?_
          simp only [List.cons_append, List.nil_append]
          refine ev_ask rfl rfl rfl ?_
          refine ev_goto rfl (ih_hid (clR _) rfl (ih_row rfl rfl)) ?_
          rw [i64_inc i (by omega)]
          have := list1_go (p := p) (m := m) (o := o) (c := c) (cap := cap) hn (q + 1) (i + 1) [clrE e] (by omega) (by omega) (by simp)
          exact this
        · have hpre : pre p e.1 = false := by simp only [pre, Bool.and_eq_false_iff]; exact .inr (beq_eq_false_iff_ne.2 hpr)
          rw [outR_neg hpre]
          refine ev_no rfl (op_eqlS (beq_eq_false_iff_ne.2 hpr)) ?_
          refine ev_ask rfl rfl rfl ?_
          refine ev_goto rfl (ih_hid (clR _) rfl rfl) ?_
          rw [i64_inc i (by omega)]
          exact ih (i + 1) (by omega) (by omega)
      · have hpre : pre p e.1 = false := by simp only [pre, Bool.and_eq_false_iff]; exact .inl (decide_eq_false hge)
        rw [outR_neg hpre]
        refine ev_no rfl (op_geq (by simpa using hge)) ?_
        refine ev_ask rfl rfl rfl ?_
        refine ev_goto rfl (ih_hid (clR _) rfl rfl) ?_
        rw [i64_inc i (by omega)]
        exact ih (i + 1) (by omega) (by omega)
    · exact fin (q + 1) i (by omega)
theorem k34 : SpecB Tryd.prog 34 g34 := knownM_spec fun x hx => by
  obtain ⟨⟨m, sh, o, c⟩, p⟩ := x
  obtain ⟨h2, h3⟩ := hx
  match sh, h2, h3 with
  | none, _, _ =>
    refine ⟨_, F34n_spec spR1_ok 1, ?_⟩
    refine spec_of rfl (bh_row rfl rfl) ?_
    refine ev_ask rfl rfl rfl ?_
    refine ev_ite rfl rfl (fun h => ?_) (fun h => ?_)
    · have h' : o > 0 := by simpa using h
      have e : listRR ⟨m, none, o, c⟩ p = ((104, []), ⟨m, none, IntKind.i64.wrap (o - 1), inc c⟩) := by simp only [listRR, h', if_true]
      refine ev_ask rfl rfl rfl ?_
      exact (ev_ret rfl rfl).trans (by simp only [resList, e]; rfl)
    · have h' : ¬ o > 0 := by simpa using h
      have e : listRR ⟨m, none, o, c⟩ p = ((0, []), ⟨m, none, o, inc c⟩) := by simp only [listRR, h', if_false]; rfl
      refine ev_goto rfl rfl ?_
      refine next_succ rfl ?_
      exact (ev_ret rfl rfl).trans (by simp only [resList, e]; rfl)
  | some (os, cap), h2, h3 =>
    refine ⟨_, F34o_spec spR1_ok (os.length + 2), ?_⟩
    refine spec_of rfl (bh_row rfl (bh_hid (clR os) rfl rfl)) ?_
    refine ev_ask rfl rfl rfl ?_
    refine ev_ite rfl rfl (fun h => ?_) (fun h => ?_)
    · have h' : o > 0 := by simpa using h
      have e : listRR ⟨m, some (os, cap), o, c⟩ p = ((104, []), ⟨m, some (os, cap), IntKind.i64.wrap (o - 1), inc c⟩) := by simp only [listRR, h', if_true]
      refine ev_ask rfl rfl rfl ?_
      exact (ev_ret rfl (ih_row rfl (ih_hid (clR _) rfl rfl))).trans (by simp only [resList, e]; rfl)
    · have h' : ¬ o > 0 := by simpa using h
      have e : listRR ⟨m, some (os, cap), o, c⟩ p = ((0, outR os p), ⟨m, some (os, cap), o, inc c⟩) := by simp only [listRR, h', if_false]; rfl
      refine ev_goto rfl (ih_hid (clR _) rfl rfl) ?_
      refine (list0_go (os := os) (p := p) h3 os.length 0 (by omega) (by omega)).trans ?_
      simp only [resList, e, List.drop_zero]
      rfl


/-! ### Copy -/
def cpSh (s : ShO) : ShO := some (osL s, if osL s = [] then some 0 else none)
def cpR (r : RfD) : RfD := { r with sh := cpSh r.sh }
def eR (_ : RfD) : List AV := [.ptr 0 0]
def resCp (r : RfD) : AV × Heap := (.ptr (rfH r).length 0, rfH r ++ rfR ((rfH r).length + 1) r.most (cpSh r.sh) r.owed r.calls :: [.row (rowO (osL r.sh))])
noncomputable def g23 : Spec := knownM fitR eR rfH resCp
theorem at23 (r : RfD) (hr : fitR r) : g23 [.ptr 0 0] (rfH r) = some (resCp r) := knownM_at (fun d e _ h => rfH_inj h) (d := r) hr
theorem op_appC (O : List EntS) (cap : Option Nat) (h0 : 0 < O.length) (hb : O.length ≤ 2000000000000) : opH (.app 3 40) [.sl 0 0 0 3 (some 0), .sl 1 0 O.length 3 cap] [.row [], .row (rowO O)] = some (.sl 2 0 O.length 3 none, [.row [], .row (rowO O), .row (rowO O)]) := by
  have h1 : 0 + O.length * 3 ≤ (rowO O).length := by rw [rowO_length]; omega
  have h2 : (0 + O.length) * 40 ≤ 140737488355328 := by omega
  have h3 : ¬ O.length = 0 := by omega
  have h4 : ((rowO O).drop 0).take (O.length * 3) = rowO O := by rw [List.drop_zero, rowO_take]; congr 1; exact List.take_of_length_le (Nat.le_refl _)
  have h5 : ¬ 0 + O.length ≤ 0 := by omega
  simp only [opH, srcK, rowAt, List.getElem?_cons_succ, List.getElem?_cons_zero, h1, and_self, if_true, h4, allOne_rowO, h3, if_false, h2, grownA, h5]
  simp
theorem op_appCz (cap : Option Nat) : opH (.app 3 40) [.sl 0 0 0 3 (some 0), .sl 1 0 0 3 cap] [.row [], .row (rowO [])] = some (.sl 0 0 0 3 (some 0), [.row [], .row (rowO [])]) := by
  simp [opH, srcK, rowAt, allOne, rowO]
theorem k23 : SpecB Tryd.prog 23 g23 := knownM_spec fun r hx => by
  obtain ⟨m, sh, o, c⟩ := r
  obtain ⟨h2, h3⟩ := hx
  match sh, h2, h3 with
  | none, _, _ =>
    refine ⟨_, F23n_spec spR1_ok 0, ?_⟩
    refine spec_of rfl (bh_row rfl rfl) ?_
    exact ev_ret rfl rfl
  | some (os, cap), h2, h3 =>
    have h3 : os.length ≤ 1099511627776 := h3
    refine ⟨_, F23o_spec spR1_ok 0, ?_⟩
    refine spec_of rfl (bh_row rfl (bh_hid (clR os) rfl rfl)) ?_
    rcases Nat.eq_zero_or_pos os.length with h0 | h0
    · have hnil : os = [] := List.length_eq_zero_iff.1 h0
      subst hnil
      refine ev_hopN rfl (ih_row rfl (ih_hid (clR []) rfl rfl)) (op_appCz cap) rfl ?_
      refine ev_hop rfl (ih_row rfl (ih_hid (clR []) rfl rfl)) (op_appCz cap) rfl (bh_row rfl (bh_hid (clR []) rfl rfl)) ?_
      simp only [List.cons_append, List.nil_append]
      exact ev_ret rfl (ih_row rfl (ih_hid (clR []) rfl (ih_row rfl rfl)))
    · have hne : ¬ os = [] := fun h => by rw [h] at h0; simp at h0
      have e : cpSh (some (os, cap)) = some (os, none) := by simp [cpSh, osL, hne]
      refine ev_hop rfl (ih_row rfl (ih_hid (clR os) rfl rfl)) (op_appC os cap h0 (by omega)) rfl (bh_row rfl (bh_hid (clR os) rfl (bh_hid (clR os) rfl rfl))) ?_
      simp only [List.cons_append, List.nil_append]
      refine (ev_ret rfl (ih_row rfl (ih_hid (clR os) rfl (ih_row rfl (ih_hid (clR os) rfl rfl))))).trans ?_
      simp only [resCp, e]
      rfl


/-! ### Are objects the same? -/
abbrev PS := ShO × ShO
def eSm (x : PS) : List AV := [osA 0 x.1, osA (rowsO x.1).length x.2]
def hSm (x : PS) : Heap := rowsO x.1 ++ rowsO x.2
theorem sm_inj (d e : PS) (h : eSm d = eSm e) (h2 : hSm d = hSm e) : d = e := by
  obtain ⟨a, b⟩ := d; obtain ⟨a', b'⟩ := e
  simp only [eSm, List.cons.injEq, and_true] at h
  obtain ⟨h1, h3⟩ := h
  have key : ∀ (x y : List EntS) (p q : Option Nat) (j : Nat), osA j (some (x, p)) = osA j (some (y, q)) → rowO x = rowO y → (some (x, p) : ShO) = some (y, q) := by
    intro x y p q j h h'
    simp only [osA, AV.sl.injEq, true_and] at h
    rw [rowO_inj h', h.2]
  match a, a', b, b', h1, h3, h2 with
  | none, none, none, none, _, _, _ => rfl
  | none, none, none, some (y, q), _, h3, _ => simp [osA] at h3
  | none, none, some (y, q), none, _, h3, _ => simp [osA] at h3
  | none, none, some (x, p), some (y, q), _, h3, h2 =>
    simp only [hSm, rowsO, List.nil_append, List.cons.injEq, AO.row.injEq, and_true] at h2
    rw [key x y p q 0 h3 h2]
  | none, some (y, q), _, _, h1, _, _ => simp [osA] at h1
  | some (y, q), none, _, _, h1, _, _ => simp [osA] at h1
  | some (x, p), some (y, q), none, none, h1, _, h2 =>
    simp only [hSm, rowsO, List.append_nil, List.cons.injEq, AO.row.injEq, and_true] at h2
    rw [key x y p q 0 h1 h2]
  | some (x, p), some (y, q), none, some (z, t), _, h3, _ => simp [osA] at h3
  | some (x, p), some (y, q), some (z, t), none, _, h3, _ => simp [osA] at h3
  | some (x, p), some (y, q), some (z, t), some (u, v), h1, h3, h2 =>
    simp only [hSm, rowsO, List.cons_append, List.nil_append, List.cons.injEq, AO.row.injEq, and_true] at h2
    rw [key x y p q 0 h1 h2.1, key z u t v 1 h3 h2.2]
def fitSm (x : PS) : Prop := (osL x.1).length ≤ 1099511627776 ∧ (osL x.2).length ≤ 1099511627776
noncomputable def g25 : List AV → Heap → Option AV := fun a H => (knownM fitSm eSm hSm (fun x => (.bool (decide (osL x.1 = osL x.2)), hSm x)) a H).map (·.1)
theorem at25 (x : PS) (h : fitSm x) : g25 (eSm x) (hSm x) = some (.bool (decide (osL x.1 = osL x.2))) := by
  have := knownM_at (fit := fitSm) (g := fun x : PS => (AV.bool (decide (osL x.1 = osL x.2)), hSm x)) sm_inj (d := x) h
  unfold g25
  rw [this]
  rfl
theorem op_load3 (O : List EntS) (i : Nat) (e : EntS) (h : O[i]? = some e) : opP (.load (some 3)) [.ptr 0 (0 + i * 3)] [.row (rowO O)] = some (.agg [.str e.1, .str e.2.1, .int .i64 e.2.2]) := by
  have hi := (List.getElem?_eq_some_iff.1 h).1
  have h1 : (rowO O).drop (0 + i * 3) = rowO (O.drop i) := by rw [Nat.zero_add, rowO_drop]
  have h2 : O.drop i = e :: O.drop (i + 1) := by rw [List.drop_eq_getElem_cons hi, (List.getElem?_eq_some_iff.1 h).2]
  have h3 : rowO (O.drop i) = .str e.1 :: .str e.2.1 :: .int .i64 e.2.2 :: rowO (O.drop (i + 1)) := by rw [h2]; rfl
  simp only [opP, HKey.quiet, if_true, opH, rowAt, List.getElem?_cons_zero, h1, h3]
  simp
theorem op_eqS' {a b : Str} {r : Bool} (h : (a == b) = r) : opK .eqS [.str a, .str b] = some (.bool r) := by subst h; rfl
theorem op_eqI' {a b : Int} {r : Bool} (h : (a == b) = r) : opK .eqI [.int .i64 a, .int .i64 b] = some (.bool r) := by subst h; simp [opK]
theorem same_go {a b : List EntS} {p q' : Option Nat} (hl : a.length = b.length) (hn : a.length ≤ 1099511627776) : ∀ (q i : Nat), a.length - i ≤ q → i ≤ a.length →
    F25a.next spR1 (q + 1) 0 [.sl 0 0 a.length 3 p, .sl 0 0 b.length 3 q', .int .i64 i] [.row (rowO a), .row (rowO b)] = some (.bool (decide (a.drop i = b.drop i)), [.row (rowO a), .row (rowO b)]) := by
  have fin : ∀ (q i : Nat), i = a.length → F25a.next spR1 (q + 1) 0 [.sl 0 0 a.length 3 p, .sl 0 0 b.length 3 q', .int .i64 i] [.row (rowO a), .row (rowO b)] = some (.bool (decide (a.drop i = b.drop i)), [.row (rowO a), .row (rowO b)]) := by
    intro q i hi
    subst hi
    rw [List.drop_length, List.drop_eq_nil_of_le (by omega)]
    refine next_succ rfl ?_
    refine ev_ask rfl rfl rfl ?_
    refine ev_no rfl (op_lss (by simp)) ?_
    exact ev_ret rfl (ih_hid (clR _) rfl (ih_hid (clR _) rfl rfl))
  intro q
  induction q with
  | zero => intro i h1 h2; exact fin 0 i (by omega)
  | succ q ih =>
    intro i h1 h2
    rcases Nat.lt_or_ge i a.length with hi | hi
    · have hib : i < b.length := by omega
      have ga : a[i]? = some a[i] := List.getElem?_eq_getElem hi
      have gb : b[i]? = some b[i] := List.getElem?_eq_getElem hib
      have hnext := ih (i + 1) (by omega) (by omega)
      rw [List.drop_eq_getElem_cons hi, List.drop_eq_getElem_cons hib]
      generalize a[i] = x at ga ⊢
      generalize b[i] = y at gb ⊢
      refine next_succ rfl ?_
      refine ev_ask rfl rfl rfl ?_
      refine ev_yes rfl (op_lss (by simp; omega)) ?_
      refine ev_ask rfl (op_idxC 0 a.length i p hi) rfl ?_
      simp only [List.cons_append, List.nil_append]
      refine ev_phop rfl (ih_hid (clR a) rfl rfl) (op_load3 a i x ga) rfl ?_
      simp only [List.cons_append, List.nil_append]
      refine ev_ask rfl (op_idxC 1 b.length i q' hib) rfl ?_
      simp only [List.cons_append, List.nil_append]
      refine ev_phop rfl (ih_hid (clR b) rfl rfl) (op_load3 b i y gb) rfl ?_
      simp only [List.cons_append, List.nil_append]
      have dec : ∀ (r : Bool), (x = y → r = decide (a.drop (i + 1) = b.drop (i + 1))) → (x ≠ y → r = false) → r = decide (x :: a.drop (i + 1) = y :: b.drop (i + 1)) := by
        intro r h1 h2
        by_cases hxy : x = y
        · rw [h1 hxy]; simp [hxy]
        · rw [h2 hxy]; simp [hxy]
      obtain ⟨x1, x2, x3⟩ := x
      obtain ⟨y1, y2, y3⟩ := y
      by_cases e1 : x1 = y1
      · refine ev_yes rfl (op_eqS' (beq_iff_eq.2 e1)) ?_
        by_cases e2 : x2 = y2
        · refine ev_yes rfl (op_eqS' (beq_iff_eq.2 e2)) ?_
          by_cases e3 : x3 = y3
          · refine ev_yes rfl (op_eqI' (beq_iff_eq.2 e3)) ?_
            refine ev_ask rfl rfl rfl ?_
            refine ev_goto rfl (ih_hid (clR _) rfl (ih_hid (clR _) rfl rfl)) ?_
            rw [i64_inc i (by omega)]
            rw [← dec (decide (a.drop (i + 1) = b.drop (i + 1))) (fun _ => rfl) (fun h => absurd (by rw [e1, e2, e3]) h)]
            exact hnext
          · refine ev_no rfl (op_eqI' (beq_eq_false_iff_ne.2 e3)) ?_
            rw [← dec false (fun h => by simp [e3] at h) (fun _ => rfl)]
            exact ev_ret rfl (ih_hid (clR _) rfl (ih_hid (clR _) rfl rfl))
        · refine ev_no rfl (op_eqS' (beq_eq_false_iff_ne.2 e2)) ?_
          rw [← dec false (fun h => by simp [e2] at h) (fun _ => rfl)]
          exact ev_ret rfl (ih_hid (clR _) rfl (ih_hid (clR _) rfl rfl))
      · refine ev_no rfl (op_eqS' (beq_eq_false_iff_ne.2 e1)) ?_
        rw [← dec false (fun h => by simp [e1] at h) (fun _ => rfl)]
        exact ev_ret rfl (ih_hid (clR _) rfl (ih_hid (clR _) rfl rfl))
    · exact fin (q + 1) i (by omega)
theorem k25 : SpecB Tryd.prog 25 (pure1 g25) := knownM_pure (knownM_spec fun x hx => by
  obtain ⟨a, b⟩ := x
  obtain ⟨h1, h2⟩ := hx
  match a, b, h1, h2 with
  | none, none, _, _ =>
    refine ⟨_, F25d_spec spR1_ok 1, ?_⟩
    refine spec_of rfl rfl ?_
    refine ev_goto rfl rfl ?_
    refine next_succ rfl ?_
    exact ev_ret rfl rfl
  | none, some (y, q), _, h2 =>
    refine ⟨_, F25b_spec spR1_ok 1, ?_⟩
    refine spec_of rfl (bh_hid (clR y) rfl rfl) ?_
    refine ev_ask rfl rfl rfl ?_
    by_cases hy : y = []
    · subst hy
      refine ev_no rfl (op_neq (by simp)) ?_
      refine ev_goto rfl (ih_hid (clR _) rfl rfl) ?_
      refine next_succ rfl ?_
      exact ev_ret rfl (ih_hid (clR _) rfl rfl)
    · have hl : y.length ≠ 0 := fun h => hy (List.length_eq_zero_iff.1 h)
      refine ev_yes rfl (op_neq (by simp; omega)) ?_
      refine (ev_ret rfl (ih_hid (clR _) rfl rfl)).trans ?_
      have e : decide (osL none = osL (some (y, q))) = false := decide_eq_false (fun h => hy h.symm)
      simp only [e]
      rfl
  | some (x, p), none, _, _ =>
    refine ⟨_, F25c_spec spR1_ok 1, ?_⟩
    refine spec_of rfl (bh_hid (clR x) rfl rfl) ?_
    refine ev_ask rfl rfl rfl ?_
    by_cases hx : x = []
    · subst hx
      refine ev_no rfl (op_neq (by simp)) ?_
      refine ev_goto rfl (ih_hid (clR _) rfl rfl) ?_
      refine next_succ rfl ?_
      refine ev_ask rfl rfl rfl ?_
      refine ev_no rfl (op_lss (by simp)) ?_
      exact ev_ret rfl (ih_hid (clR _) rfl rfl)
    · have hl : x.length ≠ 0 := fun h => hx (List.length_eq_zero_iff.1 h)
      refine ev_yes rfl (op_neq (by simp; omega)) ?_
      refine (ev_ret rfl (ih_hid (clR _) rfl rfl)).trans ?_
      have e : decide (osL (some (x, p)) = osL none) = false := decide_eq_false (fun h => hx h)
      simp only [e]
      rfl
  | some (x, p), some (y, q), h1, h2 =>
    refine ⟨_, F25a_spec spR1_ok (x.length + 1), ?_⟩
    refine spec_of rfl (bh_hid (clR x) rfl (bh_hid (clR y) rfl rfl)) ?_
    refine ev_ask rfl rfl rfl ?_
    refine ev_ask rfl rfl rfl ?_
    by_cases hl : x.length = y.length
    · refine ev_no rfl (op_neq (by simp [hl])) ?_
      refine ev_goto rfl (ih_hid (clR _) rfl (ih_hid (clR _) rfl rfl)) ?_
      exact same_go hl h1 x.length 0 (by omega) (by omega)
    · refine ev_yes rfl (op_neq (by simp; omega)) ?_
      refine (ev_ret rfl (ih_hid (clR _) rfl (ih_hid (clR _) rfl rfl))).trans ?_
      have e : decide (osL (some (x, p)) = osL (some (y, q))) = false := decide_eq_false (fun h => hl (by rw [show x = y from h]))
      simp only [e]
      rfl)

/-! ### Objects that are spoiled -/
def xor90 (t : Int) : Int := IntKind.i64.wrap (BitVec.ofInt IntKind.i64.bits t ^^^ BitVec.ofInt IntKind.i64.bits 90).toNat
def spE1 (e : EntS) : EntS := (e.1, e.2.1, xor90 e.2.2)
def spSh : ShO → ShO
  | none => none
  | some x => some (x.1.map spE1, x.2)
def e26 (s : ShO) : List AV := [osA 0 s]
noncomputable def g26 : Spec := knownM (fun s => (osL s).length ≤ 1099511627776) e26 rowsO fun s => (.tup [], rowsO (spSh s))
theorem e26_inj (d e : ShO) (h : e26 d = e26 e) (h2 : rowsO d = rowsO e) : d = e := by
  match d, e, h, h2 with
  | none, none, _, _ => rfl
  | none, some x, h, _ => simp [e26, osA] at h
  | some x, none, h, _ => simp [e26, osA] at h
  | some (x, p), some (y, q), h, h2 =>
    simp only [rowsO, List.cons.injEq, AO.row.injEq, and_true] at h2
    simp only [e26, osA, List.cons.injEq, AV.sl.injEq, true_and, and_true] at h
    rw [rowO_inj h2, h.2]
theorem at26 (s : ShO) (h : (osL s).length ≤ 1099511627776) : g26 (e26 s) (rowsO s) = some (.tup [], rowsO (spSh s)) := knownM_at (fit := fun s : ShO => (osL s).length ≤ 1099511627776) (g := fun s => (AV.tup [], rowsO (spSh s))) e26_inj (d := s) h
theorem setAt_mid2 (x y z v : AV) : ∀ (a b : List AV), setAt (a ++ x :: y :: z :: b) (a.length + 2) [v] = some (a ++ x :: y :: v :: b)
  | [], b => by simp [setAt]
  | c :: a, b => by
    have ih := setAt_mid2 x y z v a b
    simp only [List.cons_append, List.length_cons]
    rw [show a.length + 1 + 2 = (a.length + 2) + 1 by omega]
    simp only [setAt, ih, Option.map_some]
theorem op_storT (A B : List EntS) (e : EntS) : opH (.stor 1) [.ptr 0 (0 + A.length * 3 + 2), .int .i64 (xor90 e.2.2)] [.row (rowO (A ++ e :: B))] = some (.undef, [.row (rowO (A ++ spE1 e :: B))]) := by
  have h := setAt_mid2 (.str e.1) (.str e.2.1) (.int .i64 e.2.2) (.int .i64 (xor90 e.2.2)) (rowO A) (rowO B)
  rw [rowO_length] at h
  rw [rowO_split, rowO_split]
  simp only [opH, AV.cells, List.length_singleton, if_true, storeAt, rowAt, List.getElem?_cons_zero, allOne, AV.one, Nat.zero_add, h, Bool.and_self, Option.map_some, List.set_cons_zero]
  rfl
theorem spoil_go {p : Option Nat} : ∀ (B A : List EntS) (q n : Nat), B.length ≤ q → n = A.length + B.length → n ≤ 1099511627776 →
    F26.next spR1 (q + 1) 0 [.sl 0 0 n 3 p, .int .i64 (A.length : Int)] [.row (rowO (A ++ B))] = some (.tup [], [.row (rowO (A ++ B.map spE1))])
  | [], A, q, n, h1, h2, h3 => by
    simp only [List.length_nil, Nat.add_zero] at h2
    simp only [List.map_nil, List.append_nil]
    refine next_succ rfl ?_
    refine ev_ask rfl rfl rfl ?_
    refine ev_no rfl (op_lss (by simp; omega)) ?_
    exact ev_ret rfl (ih_hid (clR _) rfl rfl)
  | e :: B, A, 0, n, h1, h2, h3 => by simp at h1
  | e :: B, A, q + 1, n, h1, h2, h3 => by
    simp only [List.length_cons] at h1 h2
    have ge : (A ++ e :: B)[A.length]? = some e := by simp
    refine next_succ rfl ?_
    refine ev_ask rfl rfl rfl ?_
    refine ev_yes rfl (op_lss (by simp; omega)) ?_
    refine ev_ask rfl (op_idxC 0 n A.length p (by omega)) rfl ?_
    refine ev_ask rfl rfl rfl ?_
    simp only [List.cons_append, List.nil_append]
    refine ev_phop rfl (ih_hid (clR _) rfl rfl) (op_loadO (A ++ e :: B) A.length 2 e (.int .i64 e.2.2) ge (by omega) rfl) rfl ?_
    refine ev_ask rfl (v := .int .i64 (xor90 e.2.2)) rfl rfl ?_
    simp only [List.cons_append, List.nil_append]
    refine ev_hop rfl (ih_hid (clR _) rfl rfl) (op_storT A B e) rfl (bh_hid (clR _) rfl rfl) ?_
    refine ev_ask rfl rfl rfl ?_
    refine ev_goto rfl (ih_hid (clR _) rfl rfl) ?_
    rw [i64_inc A.length (by omega)]
    have := spoil_go (p := p) B (A ++ [spE1 e]) q n (by omega) (by simp; omega) h3
    simpa using this
theorem k26 : SpecB Tryd.prog 26 g26 := knownM_spec fun s hs => by
  match s, hs with
  | none, _ =>
    refine ⟨_, F26n_spec spR1_ok 1, ?_⟩
    refine spec_of rfl rfl ?_
    refine ev_goto rfl rfl ?_
    refine next_succ rfl ?_
    exact ev_ret rfl rfl
  | some (x, p), hs =>
    refine ⟨_, F26_spec spR1_ok (x.length + 1), ?_⟩
    refine spec_of rfl (bh_hid (clR x) rfl rfl) ?_
    refine ev_goto rfl (ih_hid (clR _) rfl rfl) ?_
    have := spoil_go (p := p) x [] x.length x.length (by omega) (by simp) hs
    exact this
end Go.Proofs.BoatV
