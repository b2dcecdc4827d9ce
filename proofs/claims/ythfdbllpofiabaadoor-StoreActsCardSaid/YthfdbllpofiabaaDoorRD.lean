/- StoreActs: the copy; a step; what All tells. -/
import Derived.Test.YthfdbllpofiabaaDoorRC
namespace Go.Proofs.BoatV
open Go
set_option linter.unusedVariables false
theorem ih_chan {L : Env} {r r' : Heap} (hr : instH L r = some r') : instH L (.chan 1 [] :: r) = some (.chan 1 [] :: r') := by simp only [instH, hr]; rfl
/-! ### The program's Copy -/
abbrev P30 := Int × Int × List EntS × Int
def e30 (x : P30) : List AV := [.ptr 0 0, .int .i64 x.2.2.2]
def h30 (x : P30) : Heap := [stR x.1 x.2.1, mapO x.2.2.1, chO []]
theorem inj30 (d e : P30) (h : e30 d = e30 e) (h2 : h30 d = h30 e) : d = e := by
  obtain ⟨a, b, c, f⟩ := d; obtain ⟨a', b', c', f'⟩ := e
  simp [e30] at h
  have h3 : stH ⟨a, b, c, []⟩ = stH ⟨a', b', c', []⟩ := h2
  have h4 := stH_inj h3
  simp at h4
  simp [h, h4]
def oweL (n : Int) : List Int := if n > 0 then [n] else []
noncomputable def g30 : Spec := knownM (fun _ => True) e30 h30 fun x => (.tup [], [stR x.1 x.2.1, mapO x.2.2.1, chO (oweL x.2.2.2)])
theorem at30 (m c : Int) (es : List EntS) (n : Int) : g30 [.ptr 0 0, .int .i64 n] [stR m c, mapO es, chO []] = some (.tup [], [stR m c, mapO es, chO (oweL n)]) := knownM_at (g := fun x : P30 => (AV.tup [], [stR x.1 x.2.1, mapO x.2.2.1, chO (oweL x.2.2.2)])) inj30 (d := (m, c, es, n)) trivial
theorem k30 : SpecB Tryd.prog 30 g30 := knownM_spec fun x _ => by
  obtain ⟨m, c, es, n⟩ := x
  refine ⟨_, F30_spec spA2_ok 0, ?_⟩
  refine spec_of rfl (bh_row rfl (bh_hid (clM es) rfl rfl)) ?_
  refine ev_ite rfl rfl (fun h => ?_) (fun h => ?_)
  · have h' : n > 0 := by simpa using h
    refine (ev_ret rfl (ih_row rfl (ih_hid (clM es) rfl rfl))).trans ?_
    simp only [oweL, if_pos h']
    rfl
  · have h' : ¬ n > 0 := by simpa using h
    refine (ev_ret rfl (ih_row rfl (ih_hid (clM es) rfl rfl))).trans ?_
    simp only [oweL, if_neg h']
    rfl
noncomputable def spf5 : FuncId → Spec
  | 30 => g30
  | f => spf4 f
theorem spf5_ok (f : FuncId) : SpecB Tryd.prog f (spf5 f) := by
  unfold spf5
  split
  · exact k30
  · exact spf4_ok _
noncomputable def spC1 : Sps := ⟨spf5, pf5⟩
theorem spC1_ok : spC1.ok Tryd.prog := ⟨spf5_ok, pf5_ok⟩
def fitCp (s : StD) : Prop := s.owed = [] ∨ ∃ n, 0 < n ∧ s.owed = [n]
def cpH (s : StD) : AV × Heap := (.ptr 3 0, [stR s.most s.calls, mapO s.es, chO s.owed, .row [.int .i64 s.most, .mapv 4, .chv 5, .int .i64 s.calls], mapO s.es, chO s.owed])
noncomputable def g22 : Spec := knownM fitCp eP stH cpH
theorem at22 (s : StD) (h : fitCp s) : g22 [.ptr 0 0] (stH s) = some (cpH s) := knownM_at (fun d e _ h => stH_inj h) (d := s) h
theorem clone_at (es : List EntS) : cloneSpec [.mapv 0] [mapO es] = some (.mapv 1, [mapO es, mapO es]) := rfl
theorem k22 : SpecB Tryd.prog 22 g22 := knownM_spec fun s hs => by
  obtain ⟨m, c, es, ow⟩ := s
  rcases hs with h | ⟨n, hn, h⟩
  · simp only at h; subst h
    refine ⟨_, F22a_spec spC1_ok 0, ?_⟩
    refine spec_of rfl (bh_row rfl (bh_hid (clM es) rfl rfl)) ?_
    refine ev_call (f := 31) (sp := spC1) rfl (ih_hid (clM es) rfl rfl) (clone_at es) rfl (bh_hid (clM es) rfl (bh_hid (clM es) rfl rfl)) ?_
    simp only [List.cons_append, List.nil_append]
    exact ev_ret rfl (ih_row rfl (ih_hid (clM es) rfl (ih_chan (ih_row rfl (ih_hid (clM es) rfl rfl)))))
  · simp only at h; subst h
    have ho : oweL n = [n] := by simp only [oweL, if_pos hn]
    have A := at30 m c es n
    rw [ho] at A
    refine ⟨_, F22b_spec spC1_ok 0, ?_⟩
    refine spec_of rfl (bh_row rfl (bh_hid (clM es) rfl rfl)) ?_
    refine ev_call (f := 31) (sp := spC1) rfl (ih_hid (clM es) rfl rfl) (clone_at es) rfl (bh_hid (clM es) rfl (bh_hid (clM es) rfl rfl)) ?_
    simp only [List.cons_append, List.nil_append]
    refine ev_call (f := 30) (sp := spC1) rfl (ih_row rfl (ih_hid (clM es) rfl rfl)) A rfl (bh_row rfl (bh_hid (clM es) rfl (bh_hid (clC _) rfl rfl))) ?_
    simp only [List.cons_append, List.nil_append]
    refine ev_call (f := 30) (sp := spC1) rfl (ih_row rfl (ih_hid (clM es) rfl rfl)) A rfl (bh_row rfl (bh_hid (clM es) rfl (bh_hid (clC _) rfl rfl))) ?_
    simp only [List.cons_append, List.nil_append]
    exact ev_ret rfl (ih_row rfl (ih_hid (clM es) rfl (ih_hid (clC _) rfl (ih_row rfl (ih_hid (clM es) rfl (ih_hid (clC _) rfl rfl))))))
noncomputable def spf6 : FuncId → Spec
  | 22 => g22
  | 24 => g24
  | f => spf5 f
theorem spf6_ok (f : FuncId) : SpecB Tryd.prog f (spf6 f) := by
  unfold spf6
  split
  · exact k22
  · exact k24
  · exact spf5_ok _
noncomputable def spL : Sps := ⟨spf6, pf5⟩
theorem spL_ok : spL.ok Tryd.prog := ⟨spf6_ok, pf5_ok⟩

/-! ### A step -/
theorem actR_sh (r : RfD) (a : ActD) : ((actR r a).2 = true ∧ ((∃ l, (actR r a).1.sh = some (l, none)) ∨ (osL r.sh ≠ [] ∧ (actR r a).1.sh = none))) ∨ ((actR r a).2 = false ∧ (actR r a).1.sh = r.sh) := by
  unfold actR
  split
  · rcases putR_sh r a.key a.data a.n with ⟨h1, l, h2⟩ | ⟨h1, h2⟩
    · exact .inl ⟨h1, .inl ⟨l, h2⟩⟩
    · exact .inr ⟨h1, h2⟩
  · split
    · exact .inr ⟨rfl, getR_sh r a.key⟩
    · split
      · exact .inr ⟨rfl, listRR_sh r a.key⟩
      · split
        · rcases delR_sh r a.key with ⟨h1, h2, ⟨l, h3⟩ | h3⟩ | ⟨h1, h2⟩
          · exact .inl ⟨h1, .inl ⟨l, h3⟩⟩
          · exact .inl ⟨h1, .inr ⟨h2, h3⟩⟩
          · exact .inr ⟨h1, h2⟩
        · exact .inr ⟨rfl, failR_sh r a.n⟩
theorem act_cases {s : StD} {r : RfD} {a : ActD} (h : FitA s r a) : ∃ s' r', Rel s' r' ∧
    ((∃ l, r'.sh = some (l, none) ∧ spL.sp 24 [.ptr 0 0, .ptr 1 0, actA a] (pH s r) = some (.bool true, pH2 r.sh s' r' true)) ∨
     (r'.sh = none ∧ osL r.sh ≠ [] ∧ spL.sp 24 [.ptr 0 0, .ptr 1 0, actA a] (pH s r) = some (.bool true, pH2 r.sh s' r' true)) ∨
     (r'.sh = r.sh ∧ spL.sp 24 [.ptr 0 0, .ptr 1 0, actA a] (pH s r) = some (.bool true, pH2 r.sh s' r' false))) := by
  have A := at24 h
  refine ⟨actS s a, (actR r a).1, act_rel h, ?_⟩
  unfold resAc at A
  simp only at A
  rcases actR_sh r a with ⟨h1, ⟨l, h2⟩ | ⟨h2, h3⟩⟩ | ⟨h1, h2⟩
  · rw [h1] at A
    exact .inl ⟨l, h2, A⟩
  · rw [h1] at A
    exact .inr (.inl ⟨h3, h2, A⟩)
  · rw [h1] at A
    exact .inr (.inr ⟨h2, A⟩)

/-! ### What All tells -/
theorem all_rel_nil {s : StD} {r : RfD} (h : Rel s r) (h0 : osL r.sh = []) : spL.sp 18 [.ptr 0 0] (stH s) = some (.snil, [stR s.most s.calls, mapO s.es, chO s.owed]) := by
  have h1 : s.es = [] := by
    have := h.perm
    rw [h0] at this
    simpa using this.symm
  exact all_none s h1
theorem all_rel_some {s : StD} {r : RfD} (h : Rel s r) (h0 : osL r.sh ≠ []) : spL.sp 18 [.ptr 0 0] (stH s) = some (.sl 3 0 (osL r.sh).length 3 none, [stR s.most s.calls, mapO s.es, chO s.owed, .row (rowO (osL r.sh))]) := by
  have h1 : s.es ≠ [] := fun he => h0 (by
    have := h.perm
    rw [he] at this
    simpa using this)
  have := all_some s ((rel_fits h).2.1 []) h1
  rw [rel_all h, ← h.perm.length_eq] at this
  exact this
theorem same_of {a b : ShO} (h : osL a = osL b) (hl : (osL a).length ≤ 4096) : spL.pf 25 (eSm (a, b)) (hSm (a, b)) = some (.bool true) := by
  have := at25 (a, b) ⟨by simp only; omega, by simp only; rw [← h]; omega⟩
  rw [decide_eq_true h] at this
  exact this
theorem rel_len {s : StD} {r : RfD} (h : Rel s r) : (osL r.sh).length ≤ 4096 := by
  have := h.perm.length_eq
  have := h.len
  omega
theorem rel_fitCp {s : StD} {r : RfD} (h : Rel s r) : fitCp s := by
  rcases h.owed with ⟨h1, _⟩ | ⟨n, h1, _, h2, _⟩
  · exact .inl h1
  · exact .inr ⟨n, h1, h2⟩
theorem rel_cp {s : StD} {r : RfD} (h : Rel s r) : Rel s (cpR r) := ⟨h.most, h.calls, h.owed, h.perm, h.sorted, h.key, h.len, h.top⟩

/-! ### Acts that came in -/
def rowAct (a : ActD) : List AV := [.int .i64 a.kind, .str a.key, .str a.data, .int .i64 a.n]
def okAct (a : ActD) : Prop := a.key.length ≤ maxLen ∧ a.n ≤ 9223372036854775807
theorem ok_acts {a : AV} (h : OkAV (.sl 4 [.int .i64, .str, .str, .int .i64]) a) : ∃ zs : List ActD, (zs.length ≤ maxLen ∧ ∀ z ∈ zs, okAct z) ∧ a = .im (zs.map rowAct) 4 := by
  cases h with
  | sl _ _ rows hl hn hr =>
    have : ∀ rows : List (List AV), (∀ (j : Nat) (row : List AV), rows[j]? = some row → row.length = 4) → (∀ (j : Nat) (row : List AV), rows[j]? = some row → ∀ (k : Nat) (s : Sh) (a : AV), [Sh.int .i64, .str, .str, .int .i64][k]? = some s → row[k]? = some a → OkAV s a) → ∃ zs : List ActD, (∀ z ∈ zs, okAct z) ∧ rows = zs.map rowAct := by
      intro rows
      induction rows with
      | nil => intro _ _; exact ⟨[], by simp, rfl⟩
      | cons r rs ih =>
        intro h1 h2
        obtain ⟨zs, hz, rfl⟩ := ih (fun j row h => h1 (j + 1) row (by simpa using h)) (fun j row h => h2 (j + 1) row (by simpa using h))
        have h3 := h1 0 r rfl
        match r, h3 with
        | [x, y, u, v], _ =>
          have k1 := h2 0 [x, y, u, v] rfl 0 _ x rfl rfl
          have k2 := h2 0 [x, y, u, v] rfl 1 _ y rfl rfl
          have k3 := h2 0 [x, y, u, v] rfl 2 _ u rfl rfl
          have k4 := h2 0 [x, y, u, v] rfl 3 _ v rfl rfl
          cases k1 with
          | int _ kd hw1 =>
          cases k2 with
          | str ky hw2 =>
          cases k3 with
          | str da hw3 =>
          cases k4 with
          | int _ nn hw4 =>
          refine ⟨⟨kd, ky, da, nn⟩ :: zs, ?_, rfl⟩
          intro z hz'
          rcases List.mem_cons.1 hz' with rfl | hz'
          · refine ⟨hw2, ?_⟩
            exact (i64_range hw4).2
          · exact hz z hz'
    obtain ⟨zs, hz, rfl⟩ := this rows hn hr
    exact ⟨zs, ⟨by simpa using hl, hz⟩, rfl⟩
end Go.Proofs.BoatV
