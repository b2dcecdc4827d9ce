/- The evaluator is right: loads, stores, new variables, zero values. -/
import Derived.Test.YthfdbllpofiabaaDoorVI
namespace Go.Proofs.BoatV
open Go
set_option linter.unusedVariables false
set_option linter.unusedSimpArgs false

/-- What a step comes to, and that it is what the evaluator says. -/
def Good (L : Env) (w : World) (β : List Nat) (H : Heap) (res : Result Next) (v : AV) (H' : Heap) : Prop :=
  ∃ u w' βn, (res = .ok (.value u) w' ∨ (res = .ok .skip w' ∧ u = Go.undef)) ∧ Sim L w' (β ++ βn) H' ∧ Rep w' L (β ++ βn) v u ∧ Step w (LiveAt β H) w' (LiveAt (β ++ βn) H')

theorem Good.pure {L : Env} {w : World} {β : List Nat} {H : Heap} (hS : Sim L w β H) {res : Result Next} {v : AV} {u : Value} (hr : res = .ok (.value u) w) (hv : Rep w L β v u) : Good L w β H res v H :=
  ⟨u, w, [], .inl hr, by simpa using hS, by simpa using hv, by simpa using Step.refl _ _⟩

section runs
variable {P : Program} {w : World}
theorem typeInfo_run {t : TypeId} {i : TypeInfo} (h : P.info? t = some i) : (typeInfo t).run P w = .ok i w := by
  simp [typeInfo, h]
theorem underlying_run {t : TypeId} {d : TypeDesc} (h : P.underlying t = some d) : (underlying t).run P w = .ok d w := by
  simp [underlying, h]
theorem szOf_info {t : TypeId} {n : Nat} (h : szOf P t = some n) : ∃ i, P.info? t = some i ∧ i.size = n := by
  simpa [szOf] using h
theorem sizeOf_run {t : TypeId} {n : Nat} (h : szOf P t = some n) : (sizeOf t).run P w = .ok n w := by
  obtain ⟨i, h1, h2⟩ := szOf_info h
  simp [sizeOf, typeInfo_run h1, h2]
theorem isAgg_run {t : TypeId} {b : Bool} (h : aggOf P t = some b) : (isAgg t).run P w = .ok b w := by
  simp only [aggOf, Option.map_eq_some_iff] at h
  obtain ⟨d, h1, h2⟩ := h
  simp only [isAgg, Sem.run_bind, underlying_run h1, Result.andThen_ok]
  cases d <;> simp_all
theorem zeroOf_run {t : TypeId} {z : AV} (h : zeroOf P t = some z) : ∃ v, (zeroValue t).run P w = .ok v w ∧ ofV v = some z := by
  simp only [zeroOf, Option.bind_eq_some_iff] at h
  obtain ⟨v, ⟨i, h1, h2⟩, h3⟩ := h
  exact ⟨v, by simp [zeroValue, typeInfo_run h1, h2], h3⟩
end runs

theorem add_none (b off k : Nat) : (⟨b, off, none⟩ : Addr).add k = ⟨b, off + k, none⟩ := by
  unfold Addr.add; split <;> simp_all

/-- Cells in memory from a place on. -/
def CellsAt (w : World) (L : Env) (β : List Nat) (b off : Nat) (cells : List AV) : Prop :=
  ∀ (k : Nat) (av : AV), cells[k]? = some av → ∃ u, w.cell? ⟨b, off + k, none⟩ = some u ∧ Rep w L β av u

theorem choose_list {α β : Type} : ∀ (l : List α) (p : Nat → α → β → Prop), (∀ (k : Nat) (a : α), l[k]? = some a → ∃ u, p k a u) → ∃ vs : List β, vs.length = l.length ∧ ∀ (k : Nat) (a : α) (v : β), l[k]? = some a → vs[k]? = some v → p k a v
  | [], p, h => ⟨[], rfl, fun k a v h => by simp at h⟩
  | x :: xs, p, h => by
    obtain ⟨u, hu⟩ := h 0 x rfl
    obtain ⟨vs, h1, h2⟩ := choose_list xs (fun k => p (k + 1)) (fun k a hk => h (k + 1) a (by simpa using hk))
    refine ⟨u :: vs, by simp [h1], fun k a v hk hv => ?_⟩
    cases k with
    | zero => simp at hk hv; subst hk; subst hv; exact hu
    | succ k => exact h2 k a v (by simpa using hk) (by simpa using hv)

theorem loadCellsFrom_run {P : Program} {w : World} {b off : Nat} : ∀ (vs : List Value) (i : Nat) (acc : Array Value), (∀ (k : Nat) (v : Value), vs[k]? = some v → w.cell? ⟨b, off + (i + k), none⟩ = some v) →
    (loadCellsFrom ⟨b, off, none⟩ i vs.length acc).run P w = .ok (acc ++ vs.toArray) w
  | [], i, acc, h => by simp [loadCellsFrom]
  | v :: vs, i, acc, h => by
    have h0 : w.cell? ⟨b, off + i, none⟩ = some v := by simpa using h 0 v rfl
    have ih := loadCellsFrom_run (P := P) vs (i + 1) (acc.push v) (fun k u hk => by
      have := h (k + 1) u (by simpa using hk)
      rwa [show i + (k + 1) = i + 1 + k by omega] at this)
    simp only [List.length_cons, loadCellsFrom, Sem.run_bind, run_load, add_none, h0, Result.andThen_ok, ih]
    simp

theorem loadVar_run {P : Program} {w : World} {L : Env} {β : List Nat} {b off : Nat} {cells : List AV} {t : TypeId} {av : AV} (hc : CellsAt w L β b off cells) (h : loadA P t cells = some av) :
    ∃ v, (loadVar t ⟨b, off, none⟩).run P w = .ok v w ∧ Rep w L β av v := by
  unfold loadA at h
  split at h
  · rename_i ha
    split at h
    · rename_i n hn
      split at h
      · rename_i hle
        simp at h; subst h
        obtain ⟨vs, h1, h2⟩ := choose_list (cells.take n) (fun k av u => w.cell? ⟨b, off + k, none⟩ = some u ∧ Rep w L β av u) (fun k av hk => hc k av (by
          rw [List.getElem?_take] at hk; split at hk <;> simp_all))
        have hlen : vs.length = n := by rw [h1, List.length_take]; omega
        have hrun := loadCellsFrom_run (P := P) (w := w) (b := b) (off := off) vs 0 #[] (fun k v hk => by
          have hkl : k < (cells.take n).length := by rw [← h1]; exact (List.getElem?_eq_some_iff.1 hk).1
          have := (h2 k _ v (List.getElem?_eq_getElem hkl) hk).1
          simpa using this)
        rw [hlen] at hrun
        refine ⟨.agg vs.toArray, ?_, .agg _ vs h1.symm (fun k a v hk hv => (h2 k a v hk hv).2)⟩
        simp [loadVar, isAgg_run ha, sizeOf_run hn, loadCells, hrun]
      · simp at h
    · simp at h
  · rename_i ha
    cases cells with
    | nil => simp at h
    | cons x xs =>
      simp at h; subst h
      obtain ⟨u, h1, h2⟩ := hc 0 x rfl
      exact ⟨u, by simp [loadVar, isAgg_run ha]; simp at h1; simp [h1], h2⟩
  · simp at h

theorem rowAt_eq {H : Heap} {i : Nat} {cs : List AV} (h : rowAt H i = some cs) : H[i]? = some (.row cs) := by
  unfold rowAt at h; split at h <;> simp_all
theorem mapAt_eq {H : Heap} {i : Nat} {es : List (AV × AV)} (h : mapAt H i = some es) : H[i]? = some (.map es) := by
  unfold mapAt at h; split at h <;> simp_all

theorem row_cells {L : Env} {w : World} {β : List Nat} {H : Heap} (hS : Sim L w β H) {i b : Nat} {cs : List AV} (hr : rowAt H i = some cs) (hb : β[i]? = some b) : CellsAt w L β b 0 cs := by
  obtain ⟨x, hx, hR⟩ := hS.obj i _ b (rowAt_eq hr) (by simp) hb
  cases hR with
  | row _ vs e fr hlen hfr h =>
    intro k av hk
    obtain ⟨v, h1, h2⟩ := h k av hk
    exact ⟨v, by simp [World.cell?, hx, h1], h2⟩

theorem CellsAt.drop {w : World} {L : Env} {β : List Nat} {b off : Nat} {cs : List AV} (h : CellsAt w L β b off cs) (n : Nat) : CellsAt w L β b (off + n) (cs.drop n) := by
  intro k av hk
  rw [List.getElem?_drop] at hk
  have := h (n + k) av hk
  rwa [← Nat.add_assoc] at this

/-! ### Stores -/
theorem AV.one_cell {w : World} {L : Env} {β : List Nat} {av : AV} {v : Value} (h : Rep w L β av v) (h1 : av.one = true) : v.oneCell' = true ∧ v.cells = #[v] := by
  induction h with
  | hid t sc ids a v ha ho hs h ih => exact ih ho
  | _ => simp_all [AV.one, Value.oneCell', Value.cells]

theorem setAt_spec : ∀ (cs : List AV) (off : Nat) (vs cs' : List AV), setAt cs off vs = some cs' → cs'.length = cs.length ∧ off + vs.length ≤ cs.length ∧
    ∀ k, cs'[k]? = if off ≤ k ∧ k < off + vs.length then vs[k - off]? else cs[k]?
  | cs, 0, [], cs', h => by cases cs <;> (simp [setAt] at h; subst h; exact ⟨rfl, by simp, fun k => by simp⟩)
  | c :: cs, 0, v :: vs, cs', h => by
    simp only [setAt, Option.map_eq_some_iff] at h
    obtain ⟨l, hl, rfl⟩ := h
    obtain ⟨h1, h2, h3⟩ := setAt_spec cs 0 vs l hl
    refine ⟨by simp [h1], by simp at h2 ⊢; omega, fun k => ?_⟩
    cases k with
    | zero => simp
    | succ k => simp only [List.getElem?_cons_succ, h3 k]; simp
  | c :: cs, n + 1, vs, cs', h => by
    have h' : ∃ l, setAt cs n vs = some l ∧ c :: l = cs' := by cases vs <;> simpa [setAt] using h
    obtain ⟨l, hl, rfl⟩ := h'
    obtain ⟨h1, h2, h3⟩ := setAt_spec cs n vs l hl
    refine ⟨by simp [h1], by simp at h2 ⊢; omega, fun k => ?_⟩
    cases k with
    | zero => simp
    | succ k => simp only [List.getElem?_cons_succ, h3 k]; congr 1 <;> simp <;> omega
  | [], 0, v :: vs, cs', h => by simp [setAt] at h
  | [], n + 1, vs, cs', h => by cases vs <;> simp [setAt] at h

/-- The world with one row written anew. -/
def World.withRow (w : World) (b : Nat) (c : Array Value) (e : TypeId) (fr : Nat × Nat) : World := { w with heap := w.heap.setIfInBounds b (.cells c e fr) }

theorem withRow_heap {w : World} {b : Nat} {c : Array Value} {e : TypeId} {fr : Nat × Nat} (hb : b < w.heap.size) : (World.withRow w b c e fr).heap[b]? = some (.cells c e fr) := by
  simp [World.withRow, hb]
theorem withRow_other {w : World} {b : Nat} {c : Array Value} {e : TypeId} {fr : Nat × Nat} {k : Nat} (h : k ≠ b) : (World.withRow w b c e fr).heap[k]? = w.heap[k]? := by
  simp only [World.withRow]; rw [Array.getElem?_setIfInBounds_ne (Ne.symm h)]
theorem setCell_withRow {w : World} {b : Nat} {c : Array Value} {e : TypeId} {fr : Nat × Nat} (h : w.heap[b]? = some (.cells c e fr)) (off : Nat) (v : Value) :
    w.setCell ⟨b, off, none⟩ v = World.withRow w b (c.setIfInBounds off v) e fr := by
  simp only [World.setCell, World.withRow]
  congr 1
  apply Array.ext_getElem?
  intro k
  rw [Array.getElem?_modify]
  by_cases hk : b = k
  · subst hk
    obtain ⟨hlt, he⟩ := Array.getElem?_eq_some_iff.1 h
    simp [hlt, he]
  · simp only [hk, if_false]
    rw [Array.getElem?_setIfInBounds_ne hk]
theorem withRow_withRow {w : World} {b : Nat} {c c' : Array Value} {e : TypeId} {fr : Nat × Nat} : World.withRow (World.withRow w b c e fr) b c' e fr = World.withRow w b c' e fr := by
  simp [World.withRow]

theorem storeCells_run {P : Program} {b off : Nat} {e : TypeId} {fr : Nat × Nat} : ∀ (vs : List Value) (i : Nat) (w : World) (c : Array Value), w.heap[b]? = some (.cells c e fr) → off + (i + vs.length) ≤ c.size →
    (∀ k, k < c.size → (decide (fr.1 ≤ k) && decide (k < fr.2)) = false) → (∀ v ∈ vs, v.oneCell' = true) →
    ∃ c', (storeCells ⟨b, off, none⟩ vs i).run P w = .ok () (World.withRow w b c' e fr) ∧ c'.size = c.size ∧ ∀ k, c'[k]? = if off + i ≤ k ∧ k < off + i + vs.length then vs[k - (off + i)]? else c[k]?
  | [], i, w, c, hw, hlen, hfr, hone => by
    refine ⟨c, ?_, rfl, fun k => by simp; omega⟩
    have : World.withRow w b c e fr = w := by
      obtain ⟨hlt, he⟩ := Array.getElem?_eq_some_iff.1 hw
      have : w.heap.setIfInBounds b (.cells c e fr) = w.heap := by
        apply Array.ext_getElem?
        intro k
        by_cases hk : b = k
        · subst hk; simp [he, hlt]
        · rw [Array.getElem?_setIfInBounds_ne hk]
      simp [World.withRow, this]
    rw [this]; rfl
  | v :: vs, i, w, c, hw, hlen, hfr, hone => by
    simp only [List.length_cons] at hlen
    have hlt : off + i < c.size := by omega
    have hcell : w.cell? ⟨b, off + i, none⟩ = some c[off + i] := by simp [World.cell?, hw, hlt]
    have hfz : w.frozen? ⟨b, off + i, none⟩ = false := by
      have := hfr (off + i) hlt
      simp only [World.frozen?, hw]
      exact this
    have hw1 : (World.withRow w b (c.setIfInBounds (off + i) v) e fr).heap[b]? = some (.cells (c.setIfInBounds (off + i) v) e fr) := withRow_heap (Array.getElem?_eq_some_iff.1 hw).1
    obtain ⟨c', h1, h2, h3⟩ := storeCells_run (P := P) (b := b) (off := off) (e := e) (fr := fr) vs (i + 1) (World.withRow w b (c.setIfInBounds (off + i) v) e fr) (c.setIfInBounds (off + i) v) hw1 (by simp; omega) (by simpa using hfr) (fun x hx => hone x (by simp [hx]))
    refine ⟨c', ?_, by simp [h2], fun k => ?_⟩
    · simp only [storeCells, Sem.run_bind, add_none]
      rw [run_store P w _ v _ (hone v (by simp))]
      simp only [hcell, hfz, setCell_withRow hw, Bool.false_eq_true, if_false, Result.andThen_ok, h1, withRow_withRow]
    · rw [h3 k]
      rcases Nat.lt_trichotomy k (off + i) with hk | hk | hk
      · rw [if_neg (by omega), if_neg (by omega), Array.getElem?_setIfInBounds_ne (by omega)]
      · subst hk; rw [if_neg (by omega), if_pos (by simp)]; simp [hlt]
      · by_cases hk2 : k < off + (i + 1) + vs.length
        · rw [if_pos (by omega), if_pos (by simp; omega), show k - (off + i) = (k - (off + (i + 1))) + 1 by omega]; simp
        · rw [if_neg (by omega), if_neg (by simp; omega), Array.getElem?_setIfInBounds_ne (by omega)]

theorem Reps.ones {w : World} {L : Env} {β : List Nat} {avs : List AV} {vs : List Value} (h : Reps w L β avs vs) (h1 : allOne avs = true) : ∀ v ∈ vs, v.oneCell' = true := by
  induction avs generalizing vs with
  | nil => intro v hv; have := h.1; cases vs <;> simp_all
  | cons a avs ih =>
    cases vs with
    | nil => intro v hv; simp at hv
    | cons u vs =>
      simp only [allOne, Bool.and_eq_true] at h1
      intro v hv
      rcases List.mem_cons.1 hv with rfl | hv
      · exact (AV.one_cell h.head h1.1).1
      · exact ih h.tail h1.2 v hv

/-- A store into a row of the evaluator's. -/
theorem store_row {P : Program} {L : Env} {w : World} {β : List Nat} {H H' : Heap} (hS : Sim L w β H) {i b off : Nat} {avs : List AV} {vs : List Value} (hb : β[i]? = some b) (hvs : Reps w L β avs vs)
    (h : storeAt H i off avs = some H') : ∃ w', (storeCells ⟨b, off, none⟩ vs).run P w = .ok () w' ∧ Sim L w' β H' ∧ Step w (LiveAt β H) w' (LiveAt β H') := by
  unfold storeAt at h
  split at h
  · rename_i cs hr
    split at h
    · rename_i hone
      simp only [Option.map_eq_some_iff] at h
      obtain ⟨cs', hset, rfl⟩ := h
      obtain ⟨s1, s2, s3⟩ := setAt_spec cs off avs cs' hset
      obtain ⟨x, hx, hR⟩ := hS.obj i _ b (rowAt_eq hr) (by simp) hb
      cases hR with
      | row _ c e fr hlen hfr hcells =>
        obtain ⟨c', r1, r2, r3⟩ := storeCells_run (P := P) (b := b) (off := off) (e := e) (fr := fr) vs 0 w c hx (by have := hvs.1; omega) hfr (hvs.ones hone)
        refine ⟨_, r1, ?_⟩
        have hbs : b < w.heap.size := hS.lt i b hb
        refine Sim.update hS (rowAt_eq hr) (by simp) (by simp) hb rfl rfl rfl (by simp [World.withRow]) (fun k hk => withRow_other hk) (fun s hs => ?_) (fun hst => ⟨_, withRow_heap hbs, ?_⟩)
        · simp only [World.shape?, hx, withRow_heap hbs] at hs ⊢; rw [r2]; exact hs
        · refine .row cs' c' e fr (by omega) (by rw [r2]; exact hfr) (fun k av hk => ?_)
          rw [s3 k] at hk
          by_cases hin : off ≤ k ∧ k < off + avs.length
          · rw [if_pos hin] at hk
            obtain ⟨v, hv, hrep⟩ := hvs.at hk
            refine ⟨v, ?_, hrep.mono hst (fun _ _ h => h)⟩
            rw [r3 k, if_pos (by have := hvs.1; omega)]; simpa using hv
          · rw [if_neg hin] at hk
            obtain ⟨v, hv, hrep⟩ := hcells k av hk
            refine ⟨v, ?_, hrep.mono hst (fun _ _ h => h)⟩
            rw [r3 k, if_neg (by have := hvs.1; omega)]; exact hv
    · simp at h
  · simp at h

/-- The cells of a value. -/
theorem cells_reps {w : World} {L : Env} {β : List Nat} {av : AV} {v : Value} (h : Rep w L β av v) (hne : av ≠ .top) : Reps w L β av.cells v.cells.toList := by
  cases h with
  | hid t sc ids a v ha ho hs hr =>
    rw [(AV.one_cell hr ho).2]
    exact Reps.cons (.hid t sc ids a v ha ho hs hr) Reps.nil
  | top v => exact absurd rfl hne
  | agg cs vs h1 h2 => exact ⟨by simpa [AV.cells, Value.cells] using h1, by simpa [AV.cells, Value.cells] using h2⟩
  | _ => simp only [AV.cells, Value.cells]; exact Reps.cons (by constructor <;> assumption) Reps.nil

/-- A new row. -/
theorem new_row {L : Env} {w : World} {β : List Nat} {H : Heap} (hS : Sim L w β H) {avs : List AV} {vs : List Value} (hvs : Reps w L β avs vs) (e : TypeId) (extra : Array Value) {w' : World}
    (hos : w'.os = w.os) (htape : w'.tape = w.tape) (hout : w'.output = w.output) (hheap : w'.heap = w.heap.push (.cells (vs.toArray ++ extra) e (0, 0))) :
    Sim L w' (β ++ [w.heap.size]) (H ++ [.row avs]) ∧ Step w (LiveAt β H) w' (LiveAt (β ++ [w.heap.size]) (H ++ [.row avs])) := by
  refine Sim.new hS (by simp) hos htape hout hheap (fun hst => ?_)
  refine .row avs _ e (0, 0) (by simp [hvs.1]) (fun k _ => by simp) (fun k av hk => ?_)
  obtain ⟨v, hv, hrep⟩ := hvs.at hk
  refine ⟨v, ?_, hrep.mono hst (fun _ _ h => get_append_left h)⟩
  have : k < vs.length := (List.getElem?_eq_some_iff.1 hv).1
  rw [Array.getElem?_append_left (by simpa using this)]; simpa using hv

end Go.Proofs.BoatV
