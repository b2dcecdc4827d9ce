/- The store as plain data; contracts: call, Put, Get, Delete, Fail. -/
import Derived.Test.YthfdbllpofiabaaDoorS4
namespace Go.Proofs.BoatV
open Go
set_option linter.unusedVariables false
/-- A key, its bytes, its time. -/
abbrev EntS := Str × Str × Int
structure StD where
  most : Int
  calls : Int
  es : List EntS
  owed : List Int
def entA (e : EntS) : AV × AV := (.str e.1, .agg [.str e.2.1, .int .i64 e.2.2])
def mapO (es : List EntS) : AO := .map (es.map entA)
def chO (o : List Int) : AO := .chan 1 (o.map fun n => .int .i64 n)
def stR (m c : Int) : AO := .row [.int .i64 m, .mapv 1, .chv 2, .int .i64 c]
def stH (s : StD) : Heap := [stR s.most s.calls, mapO s.es, chO s.owed]
theorem entA_inj {a b : EntS} (h : entA a = entA b) : a = b := by
  obtain ⟨a1, a2, a3⟩ := a; obtain ⟨b1, b2, b3⟩ := b
  simp [entA] at h; simp [h]
theorem map_inj {α β : Type} {f : α → β} (hf : ∀ a b, f a = f b → a = b) : ∀ {l m : List α}, l.map f = m.map f → l = m
  | [], [], _ => rfl
  | [], _ :: _, h => by simp at h
  | _ :: _, [], h => by simp at h
  | a :: l, b :: m, h => by
    simp only [List.map_cons, List.cons.injEq] at h
    rw [hf _ _ h.1, map_inj hf h.2]
theorem stH_inj {s t : StD} (h : stH s = stH t) : s = t := by
  obtain ⟨a, b, c, d⟩ := s; obtain ⟨a', b', c', d'⟩ := t
  simp only [stH, stR, mapO, chO, List.cons.injEq, AO.row.injEq, AO.map.injEq, AO.chan.injEq, AV.int.injEq, true_and, and_true] at h
  obtain ⟨⟨h1, h2⟩, h3, h4⟩ := h
  have e3 := map_inj (fun a b => entA_inj) h3
  have e4 := map_inj (f := fun n : Int => AV.int .i64 n) (fun a b h => by simpa using h) h4
  simp [h1, h2, e3, e4]
theorem clM (es : List EntS) : ClO (mapO es) := ClO.map (fun e he => by
  obtain ⟨x, _, rfl⟩ := List.mem_map.1 he
  exact ⟨rfl, rfl⟩)
theorem clC (o : List Int) : ClO (chO o) := ClO.chan (closedL_map (fun _ => rfl) o)

/-! ### The map -/
def lookE (k : Str) : List EntS → Nat → Option (Nat × Str × Int)
  | [], _ => none
  | e :: r, i => if k = e.1 then some (i, e.2) else lookE k r (i + 1)
def inE (k : Str) (es : List EntS) : Bool := es.any fun e => decide (k = e.1)
theorem findA_ents (k : Str) : ∀ (es : List EntS) (i : Nat), findA (.str k) (es.map entA) i = some ((lookE k es i).map fun x => (x.1, .agg [.str x.2.1, .int .i64 x.2.2]))
  | [], i => rfl
  | e :: r, i => by
    simp only [List.map_cons, findA, entA, sameKey, lookE]
    by_cases h : k = e.1
    · simp [h]
    · have : (k == e.1) = false := by simpa using h
      simp only [this, h, if_false]
      exact findA_ents k r (i + 1)
theorem lookE_in (k : Str) : ∀ (es : List EntS) (i : Nat), (lookE k es i).isSome = inE k es
  | [], i => rfl
  | e :: r, i => by
    simp only [lookE, inE, List.any_cons]
    by_cases h : k = e.1
    · simp [h]
    · simp only [h, if_false, decide_false, Bool.false_or]
      exact lookE_in k r (i + 1)
def zE : AV := .agg [.str [], .int .i64 0]
def foundA : Option (Nat × Str × Int) → AV
  | some x => .tup [.agg [.str x.2.1, .int .i64 x.2.2], .bool true]
  | none => .tup [zE, .bool false]
theorem op_look (k : Str) (es : List EntS) : opP (.look true zE true) [.mapv 0, .str k] [mapO es] = some (foundA (lookE k es 0)) := by
  have := findA_ents k es 0
  simp only [opP, HKey.quiet, if_true, opH, mapO, mapAt, List.getElem?_cons_zero, fitsB, this]
  cases lookE k es 0 <;> rfl
theorem op_look1 (k : Str) (es : List EntS) (x : Nat × Str × Int) (h : lookE k es 0 = some x) : opP (.look true zE false) [.mapv 0, .str k] [mapO es] = some (.agg [.str x.2.1, .int .i64 x.2.2]) := by
  have := findA_ents k es 0
  rw [h] at this
  simp only [opP, HKey.quiet, if_true, opH, mapO, mapAt, List.getElem?_cons_zero, fitsB, this]
  rfl
theorem op_mlen (es : List EntS) : opP .mlen [.mapv 0] [mapO es] = some (.int .i64 es.length) := by
  simp [opP, HKey.quiet, opH, mapO, mapAt]
theorem op_upd (k d : Str) (t : Int) (es : List EntS) (h : lookE k es 0 = none) : opH (.upd true) [.mapv 0, .str k, .agg [.str d, .int .i64 t]] [mapO es] = some (.undef, [mapO (es ++ [(k, d, t)])]) := by
  have := findA_ents k es 0
  rw [h] at this
  simp only [opH, mapO, mapAt, List.getElem?_cons_zero, fitsB, this, if_true, Option.map_none]
  simp [entA]
theorem erase_map {α β : Type} (f : α → β) : ∀ (l : List α) (i : Nat), (l.map f).eraseIdx i = (l.eraseIdx i).map f
  | [], i => by simp
  | a :: l, 0 => by simp
  | a :: l, i + 1 => by simp [erase_map f l i]
theorem op_del (k : Str) (es : List EntS) (x : Nat × Str × Int) (h : lookE k es 0 = some x) : opH (.del true) [.mapv 0, .str k] [mapO es] = some (.tup [], [mapO (es.eraseIdx x.1)]) := by
  have := findA_ents k es 0
  rw [h] at this
  simp only [opH, mapO, mapAt, List.getElem?_cons_zero, fitsB, this, if_true, Option.map_some]
  simp [erase_map]

/-! ### A call is counted -/
def inc (c : Int) : Int := IntKind.i64.wrap (c + 1)
def owe (n : Int) : List Int := if IntKind.i64.wrap (n - 1) > 0 then [IntKind.i64.wrap (n - 1)] else []
def called (s : StD) : Bool × StD := match s.owed with
  | [] => (false, { s with calls := inc s.calls })
  | n :: _ => (true, { s with calls := inc s.calls, owed := owe n })
def fit1 (s : StD) : Prop := s.owed.length ≤ 1
def eP (_ : StD) : List AV := [.ptr 0 0]
noncomputable def g27 : Spec := knownM fit1 eP stH fun s => (.bool (called s).1, stH (called s).2)
theorem at27 (s : StD) (h : fit1 s) : g27 [.ptr 0 0] (stH s) = some (.bool (called s).1, stH (called s).2) := knownM_at (fun d e _ h => stH_inj h) (d := s) h
theorem k27 : SpecB Tryd.prog 27 g27 := knownM_spec fun s hs => by
  obtain ⟨m, c, es, o⟩ := s
  match o, hs with
  | [], _ =>
    refine ⟨_, F27a_spec spA_ok 0, ?_⟩
    refine spec_of rfl (bh_row rfl (bh_hid (clM es) rfl rfl)) ?_
    refine ev_ask rfl rfl rfl ?_
    exact ev_ret rfl (ih_row rfl (ih_hid (clM es) rfl rfl))
  | [n], _ =>
    refine ⟨_, F27b_spec spA_ok 0, ?_⟩
    refine spec_of rfl (bh_row rfl (bh_hid (clM es) rfl rfl)) ?_
    refine ev_ask rfl rfl rfl ?_
    refine ev_ask rfl rfl rfl ?_
    refine ev_ite rfl rfl (fun h => ?_) (fun h => ?_)
    · have e : owe n = [IntKind.i64.wrap (n - 1)] := by
        have : IntKind.i64.wrap (n - 1) > 0 := by simpa using h
        simp only [owe, this, if_true]
      refine (ev_ret rfl (ih_row rfl (ih_hid (clM es) rfl rfl))).trans ?_
      simp only [eP, called, stH, e]
      rfl
    · have e : owe n = [] := by
        have : ¬ IntKind.i64.wrap (n - 1) > 0 := by simpa using h
        simp only [owe, this, if_false]
      refine (ev_ret rfl (ih_row rfl (ih_hid (clM es) rfl rfl))).trans ?_
      simp only [eP, called, stH, e]
      rfl
  | _ :: _ :: _, hs => simp [fit1] at hs
theorem called_fit (s : StD) (h : fit1 s) : fit1 (called s).2 := by
  unfold fit1 at h ⊢
  unfold called owe
  split
  · exact h
  · split <;> simp
theorem called_es (s : StD) : (called s).2.es = s.es := by unfold called; split <;> rfl
theorem called_most (s : StD) : (called s).2.most = s.most := by unfold called; split <;> rfl
theorem called_calls (s : StD) : (called s).2.calls = inc s.calls := by unfold called; split <;> rfl

noncomputable def pf1 : FuncId → List AV → Heap → Option AV
  | 12 => g12
  | 28 => g28
  | f => pf0 f
noncomputable def spB : Sps := ⟨fun | 27 => g27 | _ => fun _ _ => none, pf1⟩
theorem spB_ok : spB.ok Tryd.prog := ⟨fun f => by
  show SpecB Tryd.prog f (match f with | 27 => g27 | _ => fun _ _ => none)
  split
  · exact k27
  · exact none_ok _, fun f => by
  show SpecB Tryd.prog f (pure1 (pf1 f))
  unfold pf1
  split
  · exact k12
  · exact k28
  · exact spA_ok.2 _⟩

/-! ### Put -/
def put (s : StD) (k d : Str) (t : Int) : Int × StD :=
  if (called s).1 then (104, (called s).2) else
  if keyOk k = false ∨ d.length > 65536 ∨ t < 0 then (100, (called s).2) else
  if inE k s.es then (101, (called s).2) else
  if (s.es.length : Int) ≥ s.most then (103, (called s).2) else
  (0, { (called s).2 with es := s.es ++ [(k, d, t)] })
abbrev P4 := StD × Str × Str × Int
def ePut (x : P4) : List AV := [.ptr 0 0, .str x.2.1, .str x.2.2.1, .int .i64 x.2.2.2]
def hPut (x : P4) : Heap := stH x.1
theorem put_inj (d e : P4) (h : ePut d = ePut e) (h2 : hPut d = hPut e) : d = e := by
  obtain ⟨a, b, c, f⟩ := d; obtain ⟨a', b', c', f'⟩ := e
  have h3 := stH_inj h2
  simp [ePut] at h
  simp at h3
  simp [h, h3]
noncomputable def g13 : Spec := knownM (fun x : P4 => fit1 x.1) ePut hPut fun x => (.int .i64 (put x.1 x.2.1 x.2.2.1 x.2.2.2).1, stH (put x.1 x.2.1 x.2.2.1 x.2.2.2).2)
theorem at13 (s : StD) (k d : Str) (t : Int) (h : fit1 s) : g13 [.ptr 0 0, .str k, .str d, .int .i64 t] (stH s) = some (.int .i64 (put s k d t).1, stH (put s k d t).2) := knownM_at put_inj (d := (s, k, d, t)) h
set_option maxHeartbeats 1000000 in
theorem k13 : SpecB Tryd.prog 13 g13 := knownM_spec fun x hx => by
  obtain ⟨s, k, d, t⟩ := x
  refine ⟨_, F13_spec spB_ok 0, ?_⟩
  have A := at27 s hx
  refine spec_of rfl (bh_row rfl (bh_hid (clM s.es) rfl (bh_hid (clC s.owed) rfl rfl))) ?_
  have hcall := ih_row (L := nm ([.str k, .str d, .int .i64 t, .int .i64 s.most, .int .i64 s.calls]) [mapO s.es, chO s.owed]) (cs := [.hid 3 true [], .mapv 1, .chv 2, .hid 4 true []]) (r := [.hid 0 [], .hid 1 []]) rfl (ih_hid (clM s.es) rfl (ih_hid (clC s.owed) rfl rfl))
  cases hb : (called s).1 with
  | true =>
    have e : put s k d t = (104, (called s).2) := by simp [put, hb]
    rw [hb] at A
    refine ev_call rfl hcall A rfl (bh_row rfl (bh_hid (clM _) rfl (bh_hid (clC _) rfl rfl))) ?_
    refine (ev_ret rfl (ih_row rfl (ih_hid (clM _) rfl (ih_hid (clC _) rfl rfl)))).trans ?_
    simp only [e]; rfl
  | false =>
    rw [hb] at A
    refine ev_callN rfl hcall A rfl ?_
    refine ev_call rfl hcall A rfl (bh_row rfl (bh_hid (clM _) rfl (bh_hid (clC _) rfl rfl))) ?_
    simp only [List.cons_append, List.nil_append]
    have hret : ∀ {next : Nat → List AV → List AO → Option (AV × Heap)} {r : List AV} (n : Int), put s k d t = (n, (called s).2) →
        (Tr.ret (.int .i64 n) [.row [.hid 5 true [], .mapv 1, .chv 2, .hid 6 true []], .hid 2 [], .hid 3 []]).eval spB next ([.str k, .str d, .int .i64 t, .int .i64 s.most, .int .i64 s.calls, .int .i64 (called s).2.most, .int .i64 (called s).2.calls] ++ r) [mapO s.es, chO s.owed, mapO (called s).2.es, chO (called s).2.owed] =
        some (.int .i64 (put s k d t).1, stH (put s k d t).2) := by
      intro next r n hp
      rw [hp]
      exact ev_ret rfl (ih_row rfl (ih_hid (clM _) rfl (ih_hid (clC _) rfl rfl)))
    refine ev_pite rfl rfl (at28 k) (fun hk => ?_) (fun hk => ?_)
    · refine ev_ask rfl rfl rfl ?_
      simp only [List.cons_append, List.nil_append]
      refine ev_ite rfl rfl (fun h1 => ?_) (fun h1 => ?_)
      · refine hret (r := [_]) 100 ?_
        have : d.length > 65536 := by simp at h1; omega
        simp [put, hb, this]
      · have h1' : ¬ d.length > 65536 := by simp at h1; omega
        refine ev_ite rfl rfl (fun h2 => ?_) (fun h2 => ?_)
        · refine hret (r := [_]) 100 ?_
          have : t < 0 := by simpa using h2
          simp [put, hb, this]
        · have h2' : ¬ t < 0 := by simpa using h2
          have ho : ¬ (keyOk k = false ∨ d.length > 65536 ∨ t < 0) := by
            rintro (h | h | h)
            · rw [hk] at h; cases h
            · exact h1' h
            · exact h2' h
          have L := op_look k (called s).2.es
          rw [called_es] at L
          have L0 := lookE_in k s.es 0
          have hm : instH (nm [.str k, .str d, .int .i64 t, .int .i64 s.most, .int .i64 s.calls, .int .i64 (called s).2.most, .int .i64 (called s).2.calls, .int .i64 d.length] [mapO s.es, chO s.owed, mapO (called s).2.es, chO (called s).2.owed]) [.hid 2 []] = some [mapO s.es] := by
            rw [called_es]; exact ih_hid (clM _) rfl rfl
          cases hl : lookE k s.es 0 with
          | some y =>
            rw [hl] at L L0
            refine ev_phop rfl hm L rfl ?_
            refine hret (r := [_, _, _]) 101 ?_
            have : inE k s.es = true := by rw [← L0]; rfl
            simp only [put, hb, ho, this, if_false, if_true, Bool.false_eq_true]
          | none =>
            rw [hl] at L L0
            have hin : inE k s.es = false := by rw [← L0]; rfl
            refine ev_phopN rfl hm L rfl ?_
            refine ev_phop rfl hm L rfl ?_
            simp only [List.cons_append, List.nil_append]
            refine ev_phop rfl (v := .int .i64 s.es.length) (H := [.hid 2 []]) (h := [mapO s.es]) (by rw [called_es]; exact ih_hid (clM _) rfl rfl) (op_mlen _) rfl ?_
            simp only [List.cons_append, List.nil_append]
            refine ev_ite rfl rfl (fun h3 => ?_) (fun h3 => ?_)
            · refine hret (r := [_, _, _, _]) 103 ?_
              have : (s.es.length : Int) ≥ s.most := by rw [called_most] at h3; simpa using h3
              simp only [put, hb, ho, hin, this, if_false, if_true, Bool.false_eq_true]
            · have h3' : ¬ (s.es.length : Int) ≥ s.most := by rw [called_most] at h3; simpa using h3
              have e : put s k d t = (0, { (called s).2 with es := s.es ++ [(k, d, t)] }) := by
                simp only [put, hb, ho, hin, h3', if_false, Bool.false_eq_true]
              refine ev_hop rfl (H := [.hid 2 []]) (h := [mapO s.es]) (by rw [called_es]; exact ih_hid (clM _) rfl rfl) (op_upd k d t s.es hl) rfl (bh_hid (clM _) rfl rfl) ?_
              rw [e]
              exact ev_ret rfl (ih_row rfl (ih_hid (clM _) rfl (ih_hid (clC _) rfl rfl)))
    · refine hret (r := []) 100 ?_
      have hk' : keyOk k = false := hk
      simp [put, hb, hk']
end Go.Proofs.BoatV
