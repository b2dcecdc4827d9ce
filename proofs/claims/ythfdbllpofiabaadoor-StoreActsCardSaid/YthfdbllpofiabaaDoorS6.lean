/- Contracts: Get, Delete, Fail, HasPrefix. -/
import Derived.Test.YthfdbllpofiabaaDoorS5
namespace Go.Proofs.BoatV
open Go
set_option linter.unusedVariables false
abbrev P2 := StD × Str
def eGet (x : P2) : List AV := [.ptr 0 0, .str x.2]
def hGet (x : P2) : Heap := stH x.1
theorem get_inj (d e : P2) (h : eGet d = eGet e) (h2 : hGet d = hGet e) : d = e := by
  obtain ⟨a, b⟩ := d; obtain ⟨a', b'⟩ := e
  have h3 := stH_inj h2
  simp [eGet] at h
  simp at h3
  simp [h, h3]
/-! ### Get -/
def get (s : StD) (k : Str) : Str × Int :=
  if (called s).1 then ([], 104) else match lookE k s.es 0 with
    | some x => (x.2.1, 0)
    | none => ([], 102)
noncomputable def g14 : Spec := knownM (fun x : P2 => fit1 x.1) eGet hGet fun x => (.tup [.str (get x.1 x.2).1, .int .i64 (get x.1 x.2).2], stH (called x.1).2)
theorem at14 (s : StD) (k : Str) (h : fit1 s) : g14 [.ptr 0 0, .str k] (stH s) = some (.tup [.str (get s k).1, .int .i64 (get s k).2], stH (called s).2) := knownM_at get_inj (d := (s, k)) h
theorem k14 : SpecB Tryd.prog 14 g14 := knownM_spec fun x hx => by
  obtain ⟨s, k⟩ := x
  refine ⟨_, F14_spec spB_ok 0, ?_⟩
  have A := at27 s hx
  refine spec_of rfl (bh_row rfl (bh_hid (clM s.es) rfl (bh_hid (clC s.owed) rfl rfl))) ?_
  have hcall := ih_row (L := nm ([.str k, .int .i64 s.most, .int .i64 s.calls]) [mapO s.es, chO s.owed]) (cs := [.hid 1 true [], .mapv 1, .chv 2, .hid 2 true []]) (r := [.hid 0 [], .hid 1 []]) rfl (ih_hid (clM s.es) rfl (ih_hid (clC s.owed) rfl rfl))
  cases hb : (called s).1 with
  | true =>
    have e : get s k = ([], 104) := by simp [get, hb]
    rw [hb] at A
    refine ev_call rfl hcall A rfl (bh_row rfl (bh_hid (clM _) rfl (bh_hid (clC _) rfl rfl))) ?_
    refine (ev_ret rfl (ih_row rfl (ih_hid (clM _) rfl (ih_hid (clC _) rfl rfl)))).trans ?_
    simp only [e]; rfl
  | false =>
    rw [hb] at A
    refine ev_callN rfl hcall A rfl ?_
    refine ev_call rfl hcall A rfl (bh_row rfl (bh_hid (clM _) rfl (bh_hid (clC _) rfl rfl))) ?_
    simp only [List.cons_append, List.nil_append]
    have L := op_look k (called s).2.es
    rw [called_es] at L
    have hm : instH (nm [.str k, .int .i64 s.most, .int .i64 s.calls, .int .i64 (called s).2.most, .int .i64 (called s).2.calls] [mapO s.es, chO s.owed, mapO (called s).2.es, chO (called s).2.owed]) [.hid 2 []] = some [mapO s.es] := by
      rw [called_es]; exact ih_hid (clM _) rfl rfl
    cases hl : lookE k s.es 0 with
    | some y =>
      rw [hl] at L
      have e : get s k = (y.2.1, 0) := by simp [get, hb, hl]
      refine ev_phop rfl hm L rfl ?_
      refine (ev_ret rfl (ih_row rfl (ih_hid (clM _) rfl (ih_hid (clC _) rfl rfl)))).trans ?_
      simp only [e]; rfl
    | none =>
      rw [hl] at L
      have e : get s k = ([], 102) := by simp [get, hb, hl]
      refine ev_phopN rfl hm L rfl ?_
      refine ev_phop rfl hm L rfl ?_
      refine (ev_ret rfl (ih_row rfl (ih_hid (clM _) rfl (ih_hid (clC _) rfl rfl)))).trans ?_
      simp only [e]; rfl

/-! ### Delete -/
def del (s : StD) (k : Str) : Int × StD :=
  if (called s).1 then (104, (called s).2) else match lookE k s.es 0 with
    | some x => (0, { (called s).2 with es := s.es.eraseIdx x.1 })
    | none => (102, (called s).2)
noncomputable def g20 : Spec := knownM (fun x : P2 => fit1 x.1) eGet hGet fun x => (.int .i64 (del x.1 x.2).1, stH (del x.1 x.2).2)
theorem at20 (s : StD) (k : Str) (h : fit1 s) : g20 [.ptr 0 0, .str k] (stH s) = some (.int .i64 (del s k).1, stH (del s k).2) := knownM_at get_inj (d := (s, k)) h
theorem k20 : SpecB Tryd.prog 20 g20 := knownM_spec fun x hx => by
  obtain ⟨s, k⟩ := x
  refine ⟨_, F20_spec spB_ok 0, ?_⟩
  have A := at27 s hx
  refine spec_of rfl (bh_row rfl (bh_hid (clM s.es) rfl (bh_hid (clC s.owed) rfl rfl))) ?_
  have hcall := ih_row (L := nm ([.str k, .int .i64 s.most, .int .i64 s.calls]) [mapO s.es, chO s.owed]) (cs := [.hid 1 true [], .mapv 1, .chv 2, .hid 2 true []]) (r := [.hid 0 [], .hid 1 []]) rfl (ih_hid (clM s.es) rfl (ih_hid (clC s.owed) rfl rfl))
  cases hb : (called s).1 with
  | true =>
    have e : del s k = (104, (called s).2) := by simp [del, hb]
    rw [hb] at A
    refine ev_call rfl hcall A rfl (bh_row rfl (bh_hid (clM _) rfl (bh_hid (clC _) rfl rfl))) ?_
    refine (ev_ret rfl (ih_row rfl (ih_hid (clM _) rfl (ih_hid (clC _) rfl rfl)))).trans ?_
    simp only [e]; rfl
  | false =>
    rw [hb] at A
    refine ev_callN rfl hcall A rfl ?_
    refine ev_call rfl hcall A rfl (bh_row rfl (bh_hid (clM _) rfl (bh_hid (clC _) rfl rfl))) ?_
    simp only [List.cons_append, List.nil_append]
    have L := op_look k (called s).2.es
    rw [called_es] at L
    have hm : instH (nm [.str k, .int .i64 s.most, .int .i64 s.calls, .int .i64 (called s).2.most, .int .i64 (called s).2.calls] [mapO s.es, chO s.owed, mapO (called s).2.es, chO (called s).2.owed]) [.hid 2 []] = some [mapO s.es] := by
      rw [called_es]; exact ih_hid (clM _) rfl rfl
    cases hl : lookE k s.es 0 with
    | some y =>
      rw [hl] at L
      have e : del s k = (0, { (called s).2 with es := s.es.eraseIdx y.1 }) := by simp [del, hb, hl]
      refine ev_phop rfl hm L rfl ?_
      refine ev_hop rfl (H := [.hid 2 []]) (h := [mapO s.es]) (by rw [called_es]; exact ih_hid (clM _) rfl rfl) (op_del k s.es y hl) rfl (bh_hid (clM _) rfl rfl) ?_
      refine (ev_ret rfl (ih_row rfl (ih_hid (clM _) rfl (ih_hid (clC _) rfl rfl)))).trans ?_
      simp only [e]; rfl
    | none =>
      rw [hl] at L
      have e : del s k = (102, (called s).2) := by simp [del, hb, hl]
      refine ev_phopN rfl hm L rfl ?_
      refine ev_phop rfl hm L rfl ?_
      refine (ev_ret rfl (ih_row rfl (ih_hid (clM _) rfl (ih_hid (clC _) rfl rfl)))).trans ?_
      simp only [e]; rfl

/-! ### Fail -/
abbrev PI := StD × Int
def eFl (x : PI) : List AV := [.ptr 0 0, .int .i64 x.2]
def hFl (x : PI) : Heap := stH x.1
theorem fl_inj (d e : PI) (h : eFl d = eFl e) (h2 : hFl d = hFl e) : d = e := by
  obtain ⟨a, b⟩ := d; obtain ⟨a', b'⟩ := e
  have h3 := stH_inj h2
  simp [eFl] at h
  simp at h3
  simp [h, h3]
def fail (s : StD) (n : Int) : Int × StD := if n < 0 then (100, s) else (0, { s with owed := if n > 0 then [n] else [] })
noncomputable def g17 : Spec := knownM (fun x : PI => fit1 x.1) eFl hFl fun x => (.int .i64 (fail x.1 x.2).1, stH (fail x.1 x.2).2)
theorem at17 (s : StD) (n : Int) (h : fit1 s) : g17 [.ptr 0 0, .int .i64 n] (stH s) = some (.int .i64 (fail s n).1, stH (fail s n).2) := knownM_at fl_inj (d := (s, n)) h
theorem k17 : SpecB Tryd.prog 17 g17 := knownM_spec fun x hx => by
  obtain ⟨s, n⟩ := x
  obtain ⟨m, c, es, o⟩ := s
  match o, hx with
  | [], _ =>
    refine ⟨_, F17a_spec spA_ok 0, ?_⟩
    refine spec_of rfl (bh_row rfl (bh_hid (clM es) rfl rfl)) ?_
    refine ev_ite rfl rfl (fun h => ?_) (fun h => ?_)
    · have h' : n < 0 := by simpa using h
      refine (ev_ret rfl (ih_row rfl (ih_hid (clM es) rfl rfl))).trans ?_
      simp only [fail, h', if_true]; rfl
    · have h' : ¬ n < 0 := by simpa using h
      refine ev_ite rfl rfl (fun h2 => ?_) (fun h2 => ?_)
      · have h2' : n > 0 := by simpa using h2
        refine (ev_ret rfl (ih_row rfl (ih_hid (clM es) rfl rfl))).trans ?_
        simp only [fail, h', h2', if_true, if_false]; rfl
      · have h2' : ¬ n > 0 := by simpa using h2
        refine (ev_ret rfl (ih_row rfl (ih_hid (clM es) rfl rfl))).trans ?_
        simp only [fail, h', h2', if_false]; rfl
  | [q], _ =>
    refine ⟨_, F17b_spec spA_ok 0, ?_⟩
    refine spec_of rfl (bh_row rfl (bh_hid (clM es) rfl rfl)) ?_
    refine ev_ite rfl rfl (fun h => ?_) (fun h => ?_)
    · have h' : n < 0 := by simpa using h
      refine (ev_ret rfl (ih_row rfl (ih_hid (clM es) rfl rfl))).trans ?_
      simp only [fail, h', if_true]; rfl
    · have h' : ¬ n < 0 := by simpa using h
      refine ev_ite rfl rfl (fun h2 => ?_) (fun h2 => ?_)
      · have h2' : n > 0 := by simpa using h2
        refine (ev_ret rfl (ih_row rfl (ih_hid (clM es) rfl rfl))).trans ?_
        simp only [fail, h', h2', if_true, if_false]; rfl
      · have h2' : ¬ n > 0 := by simpa using h2
        refine (ev_ret rfl (ih_row rfl (ih_hid (clM es) rfl rfl))).trans ?_
        simp only [fail, h', h2', if_false]; rfl
  | _ :: _ :: _, hs => simp [fit1] at hs

/-! ### HasPrefix -/
def pre (p s : Str) : Bool := decide (p.length ≤ s.length) && (s.take p.length == p)
abbrev S2 := Str × Str
def eSS (x : S2) : List AV := [.str x.1, .str x.2]
theorem eSS_inj (d e : S2) (h : eSS d = eSS e) : d = e := by
  obtain ⟨a, b⟩ := d; obtain ⟨c, f⟩ := e
  simp [eSS] at h; simp [h]
noncomputable def g41 := known yes eSS fun x => .bool (pre x.2 x.1)
theorem at41 (s p : Str) : g41 [.str s, .str p] [] = some (.bool (pre p s)) := known_at eSS_inj (d := (s, p)) trivial
theorem k41 : SpecB Tryd.prog 41 (pure1 g41) := known_spec (F := F41) (fun n => F41_spec spA_ok n) fun x _ => ⟨0, by
  obtain ⟨s, p⟩ := x
  refine spec_of rfl rfl ?_
  refine ev_ask rfl rfl rfl ?_
  refine ev_ask rfl rfl rfl ?_
  refine ev_ite rfl rfl (fun h => ?_) (fun h => ?_)
  · have h' : p.length ≤ s.length := by simp at h; omega
    refine ev_ask rfl (v := .str (s.take p.length)) (by simp [opK, take1, slcK, boundA, h']) rfl ?_
    refine ev_ite rfl rfl (fun h2 => ?_) (fun h2 => ?_)
    · exact b_ret (by simp only [pre, h', decide_true, Bool.true_and]; exact h2.symm)
    · exact b_ret (by simp only [pre, h', decide_true, Bool.true_and]; exact h2.symm)
  · have h' : ¬ p.length ≤ s.length := by simp at h; omega
    exact b_ret (by simp [pre, h'])⟩
end Go.Proofs.BoatV
