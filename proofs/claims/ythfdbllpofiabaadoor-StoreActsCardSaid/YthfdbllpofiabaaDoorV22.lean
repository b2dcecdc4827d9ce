/- Data that came in, as values that bear no names; a row's answer. -/
import Derived.Test.YthfdbllpofiabaaDoorV21
import Derived.ChangeArms
import Derived.Carry
namespace Go.Proofs.BoatV
open Go Go.Proofs Go.ChangeShapes Go.RowKit
set_option linter.unusedVariables false
set_option linter.unusedSimpArgs false
variable {P : Program}

/-! ### Shapes -/
/-- A cell's: a number, a truth, a text, a slice of rows. -/
inductive Sh where
  | int (k : IntKind)
  | bool
  | str
  | sl (sz : Nat) (el : List Sh)
def fieldsSh (P : Program) (sh : TypeId → Option (List Sh)) : List Field → Nat → Option (List Sh)
  | [], _ => some []
  | f :: fs, off => if f.offset = off then match sh f.type with
      | some l => if l.length = P.cellsOf f.type then (fieldsSh P sh fs (off + l.length)).map (l ++ ·) else none
      | none => none
    else none
def shapeOf (P : Program) : Nat → TypeId → Option (List Sh)
  | 0, _ => none
  | n + 1, t => match P.underlying t with
    | some .bool => some [.bool]
    | some (.int k) => some [.int k]
    | some .string => some [.str]
    | some (.slice e) => match shapeOf P n e with
      | some l => if l.length = P.cellsOf e ∧ 0 < l.length then some [.sl (P.cellsOf e) l] else none
      | none => none
    | some (.struct fs) => match fieldsSh P (shapeOf P n) fs.toList 0 with
      | some l => if l.length = P.cellsOf t then some l else none
      | none => none
    | _ => none

inductive OkAV : Sh → AV → Prop
  | int (k n) (h : (Lit.int k n).wf = true) : OkAV (.int k) (.int k n)
  | bool (b) : OkAV .bool (.bool b)
  | str (l : List UInt8) (h : l.length ≤ maxLen) : OkAV .str (.str l)
  | sl (sz el) (rows : List (List AV)) (hl : rows.length ≤ maxLen) (hn : ∀ (j : Nat) (row : List AV), rows[j]? = some row → row.length = el.length)
      (h : ∀ (j : Nat) (row : List AV), rows[j]? = some row → ∀ (k : Nat) (s : Sh) (a : AV), el[k]? = some s → row[k]? = some a → OkAV s a) : OkAV (.sl sz el) (.im rows sz)
def OkAVs (l : List Sh) (avs : List AV) : Prop := avs.length = l.length ∧ ∀ (k : Nat) (s : Sh) (a : AV), l[k]? = some s → avs[k]? = some a → OkAV s a

theorem OkAVs.nil : OkAVs [] [] := ⟨rfl, fun k s a h => by simp at h⟩
theorem OkAVs.append {l m : List Sh} {a b : List AV} (h : OkAVs l a) (k : OkAVs m b) : OkAVs (l ++ m) (a ++ b) := by
  refine ⟨by simp [h.1, k.1], fun j s x hs hx => ?_⟩
  rcases Nat.lt_or_ge j l.length with hj | hj
  · rw [List.getElem?_append_left hj] at hs
    rw [List.getElem?_append_left (by rw [h.1]; exact hj)] at hx
    exact h.2 j s x hs hx
  · rw [List.getElem?_append_right hj] at hs
    rw [List.getElem?_append_right (by rw [h.1]; exact hj), h.1] at hx
    exact k.2 _ s x hs hx

def old (w : World) : Env := bareE fun b => w.heap.size ≤ b

section
variable {H : Type} {enc : TypeId × Value → H} {w : World} {base : Nat} {spare : Nat → Bool} {held : Bool}

theorem cells?_get {a : Addr} {n : Nat} {cs : List Value} (h : w.cells? base a n = some cs) : cs.length = n ∧ ∀ i, i < n → w.cell? (a.add i) = cs[i]? := by
  unfold World.cells? at h
  split at h
  · exact ⟨by simpa using mapM_some_length h, fun i hi => mapM_some_get h i i (by simp [hi])⟩
  · simp at h

theorem listEx {α : Type} {Q : Nat → α → Prop} : ∀ n : Nat, (∀ i, i < n → ∃ x, Q i x) → ∃ l : List α, l.length = n ∧ ∀ i x, l[i]? = some x → Q i x
  | 0, _ => ⟨[], rfl, fun i x h => by simp at h⟩
  | n + 1, h => by
    obtain ⟨l, h1, h2⟩ := listEx n (fun i hi => h i (by omega))
    obtain ⟨x, hx⟩ := h n (by omega)
    refine ⟨l ++ [x], by simp [h1], fun i y hy => ?_⟩
    rcases Nat.lt_or_ge i l.length with hi | hi
    · rw [List.getElem?_append_left hi] at hy; exact h2 i y hy
    · rw [List.getElem?_append_right hi] at hy
      have : i = n := by
        have := (List.getElem?_eq_some_iff.1 hy).1
        simp at this; omega
      subst this
      simp [h1] at hy
      subst hy; exact hx

theorem trod_fields {sh : TypeId → Option (List Sh)} {cs : List Value} {tr : TypeId → List Value → Option (DataW H × List MemPlace)}
    (ih : ∀ t cs x shs, tr t cs = some x → sh t = some shs → ∃ avs, OkAVs shs avs ∧ Reps w (old w) [] avs cs) :
    ∀ (fs : List Field) (off : Nat) (shs : List Sh), fieldsSh P sh fs off = some shs → off + shs.length ≤ cs.length → (∀ (i : Nat) (f : Field), fs[i]? = some f → ∃ x, tr f.type ((cs.drop f.offset).take (P.cellsOf f.type)) = some x) →
      ∃ avs, OkAVs shs avs ∧ Reps w (old w) [] avs ((cs.drop off).take shs.length)
  | [], off, shs, h, hl, _ => by
    simp [fieldsSh] at h; subst h
    exact ⟨[], OkAVs.nil, by simpa using Reps.nil⟩
  | f :: fs, off, shs, h, hl, hx => by
    simp only [fieldsSh] at h
    split at h
    · rename_i ho
      split at h
      · rename_i l hs
        split at h
        · rename_i hc
          simp only [Option.map_eq_some_iff] at h
          obtain ⟨r, hr, rfl⟩ := h
          obtain ⟨x, hx0⟩ := hx 0 f rfl
          obtain ⟨a, h1, h2⟩ := ih _ _ _ _ hx0 hs
          have hl' : off + (l.length + r.length) ≤ cs.length := by simpa using hl
          obtain ⟨b, h3, h4⟩ := trod_fields ih fs (off + l.length) r hr (by omega) (fun i g hg => hx (i + 1) g (by simpa using hg))
          refine ⟨a ++ b, h1.append h3, ?_⟩
          rw [ho, ← hc] at h2
          have e : (cs.drop off).take (l ++ r).length = (cs.drop off).take l.length ++ (cs.drop (off + l.length)).take r.length := by
            rw [List.length_append, ← List.drop_drop, ← List.take_add]
          rw [e]
          exact h2.append h4
        · simp at h
      · simp at h
    · simp at h


/-- What came in reads as values of its shape, that bear no names, and stand in old memory. -/
theorem trod_rep : ∀ (n : Nat) (fuel : Nat) (t : TypeId) (cs : List Value) (x : DataW H × List MemPlace) (shs : List Sh), DataW.trod enc P w base spare held fuel t cs = some x → shapeOf P n t = some shs →
    ∃ avs, OkAVs shs avs ∧ Reps w (old w) [] avs cs := by
  intro n
  induction n with
  | zero => intro fuel t cs x shs h hsh; simp [shapeOf] at hsh
  | succ n ih =>
    intro fuel t cs x shs h hsh
    simp only [shapeOf] at hsh
    split at hsh
    · rename_i hu
      obtain ⟨b, rfl, _⟩ := DataW.trod_bool hu h
      simp at hsh; subst hsh
      exact ⟨[.bool b], ⟨rfl, fun k s a hs ha => by
        cases k with
        | zero => simp at hs ha; subst hs; subst ha; exact .bool b
        | succ k => simp at hs⟩, Reps.cons (.bool b) Reps.nil⟩
    · rename_i kd hu
      obtain ⟨b, rfl, _, hw⟩ := DataW.trod_int hu h
      simp at hsh; subst hsh
      exact ⟨[.int kd b], ⟨rfl, fun k s a hs ha => by
        cases k with
        | zero => simp at hs ha; subst hs; subst ha; exact .int kd b hw
        | succ k => simp at hs⟩, Reps.cons (.int kd b) Reps.nil⟩
    · rename_i hu
      obtain ⟨b, rfl, _, hw⟩ := DataW.trod_string hu h
      simp at hsh; subst hsh
      exact ⟨[.str b.data.toList], ⟨rfl, fun k s a hs ha => by
        cases k with
        | zero => simp at hs ha; subst hs; subst ha; exact .str _ (by simpa using hw)
        | succ k => simp at hs⟩, Reps.cons (by simpa using Rep.str (w := w) (L := old w) (β := []) b.data.toList) Reps.nil⟩
    · rename_i e hu
      split at hsh
      · rename_i l hl
        split at hsh
        · rename_i hc
          simp at hsh; subst hsh
          rcases DataW.trod_slice hu h with ⟨rfl, _⟩ | ⟨a, len, cap, elems, rest, m, _, rfl, _, hb, hlc, hcm, hel, he, _, _⟩
          · refine ⟨[.im [] (P.cellsOf e)], ⟨rfl, fun k s a hs ha => ?_⟩, Reps.cons (.im [] _ none 0 0 (fun _ _ => Go.undef) rfl (Nat.le_refl _) (fun j row h => by simp at h) (fun h => by omega) (fun _ h => trivial) (fun j row k av h => by simp at h)) Reps.nil⟩
            cases k with
            | zero => simp at hs ha; subst hs; subst ha; exact .sl _ _ [] (Nat.zero_le _) (fun j row h => by simp at h) (fun j row h => by simp at h)
            | succ k => simp at hs
          · have hq : ∀ i, i < len → ∃ row : List AV, ∃ ci, w.cells? base (a.add (i * P.cellsOf e)) (P.cellsOf e) = some ci ∧ OkAVs l row ∧ Reps w (old w) [] row ci := by
              intro i hi
              have h1 := he i hi
              rw [List.getElem?_eq_getElem (by omega : i < elems.length)] at h1
              obtain ⟨ci, h2, h3⟩ := Option.bind_eq_some_iff.1 h1
              obtain ⟨avs, h4, h5⟩ := ih m e ci _ l h3 hl
              exact ⟨avs, ci, h2, h4, h5⟩
            obtain ⟨rows, hrl, hrow⟩ := listEx len hq
            have hspot : 0 < len → ∃ bl off, a = ⟨bl, off, none⟩ ∧ bl < w.heap.size := by
              intro h0
              obtain ⟨row, ci, h2, _⟩ := hq 0 h0
              have h3 := cells?_get h2
              have h4 := h3.2 0 (by omega)
              rw [List.getElem?_eq_getElem (by omega : 0 < ci.length)] at h4
              simp [Addr.add] at h4
              obtain ⟨bl, off, spot⟩ := a
              have hs : spot = none := by simpa using World.cell?_spot h4
              subst hs
              exact ⟨bl, off, rfl, World.block_lt_of_cell? w ⟨bl, off, none⟩ h4⟩
            refine ⟨[.im rows (P.cellsOf e)], ⟨rfl, fun k s x hs hx => ?_⟩, Reps.cons ?_ Reps.nil⟩
            · cases k with
              | zero =>
                simp at hs hx; subst hs; subst hx
                exact .sl _ _ rows (by omega) (fun j row h => by obtain ⟨ci, _, ho, _⟩ := hrow j row h; exact ho.1) (fun j row h => by obtain ⟨ci, _, ho, _⟩ := hrow j row h; exact ho.2)
              | succ k => simp at hs
            · refine .im rows _ (some a) len cap (fun j k => (w.cell? ⟨a.block, a.off + (j * P.cellsOf e + k), none⟩).getD Go.undef) hrl.symm hlc (fun j row h => by obtain ⟨ci, _, ho, _⟩ := hrow j row h; rw [ho.1, hc.1]) (fun h0 => ?_) (fun _ _ => trivial) ?_
              · obtain ⟨bl, off, rfl, hbl⟩ := hspot h0
                refine ⟨bl, off, rfl, Nat.not_le_of_lt hbl, hbl, fun j k hj hk => ?_⟩
                obtain ⟨row, ci, h2, _⟩ := hq j hj
                have h3 := cells?_get h2
                have h4 := h3.2 k hk
                rw [add_none, add_none, Nat.add_assoc, List.getElem?_eq_getElem (by omega : k < ci.length)] at h4
                simp only [h4, Option.getD_some]
              · intro j row k av hj hk
                have hlt : j < len := by rw [← hrl]; exact (List.getElem?_eq_some_iff.1 hj).1
                obtain ⟨bl, off, rfl, hbl⟩ := hspot (by omega)
                obtain ⟨ci, h2, ho, hR⟩ := hrow j row hj
                have h3 := cells?_get h2
                have hk' : k < row.length := (List.getElem?_eq_some_iff.1 hk).1
                have hk2 : k < ci.length := by rw [← hR.1]; exact hk'
                have h4 := h3.2 k (by omega)
                rw [add_none, add_none, Nat.add_assoc, List.getElem?_eq_getElem hk2] at h4
                simp only [h4, Option.getD_some]
                exact hR.2 k av _ hk (List.getElem?_eq_getElem hk2)
        · simp at hsh
      · simp at hsh
    · rename_i fs hu
      split at hsh
      · rename_i l hl
        split at hsh
        · rename_i hc
          simp at hsh; subst hsh
          obtain ⟨xs, m, _, _, hlen, hxs, hx⟩ := DataW.trod_struct hu h
          obtain ⟨avs, h1, h2⟩ := trod_fields (P := P) (sh := shapeOf P n) (cs := cs) (tr := DataW.trod enc P w base spare held m) (fun t cs x shs h1 h2 => ih m t cs x shs h1 h2) fs.toList 0 l hl (by omega) (fun i f hf => by
            have hf' : fs[i]? = some f := by simpa using hf
            have hi : i < fs.size := (Array.getElem?_eq_some_iff.1 hf').1
            rw [hx i f hf', List.getElem?_eq_getElem (by omega : i < xs.length)]
            exact ⟨_, rfl⟩)
          refine ⟨avs, h1, ?_⟩
          simpa [hc, ← hlen] using h2
        · simp at hsh
      · simp at hsh
    · simp at hsh

/-- An argument that is one cell, or a struct of them: as it is handed over. -/
theorem Trod_one {t : TypeId} {v : Value} {d : DataW H} {ps : List MemPlace} {n : Nat} {s : Sh} (h : DataW.Trod enc P w base spare held t v d ps) (hsh : shapeOf P n t = some [s]) (hv : v.cells = #[v]) : ∃ a, OkAV s a ∧ Rep w (old w) [] a v := by
  obtain ⟨fuel, h⟩ := h
  obtain ⟨avs, h1, h2⟩ := trod_rep n fuel t _ _ _ h hsh
  rw [hv] at h2
  match avs, h1, h2 with
  | [a], h1, h2 => exact ⟨a, h1.2 0 s a rfl rfl, h2.head⟩
  | [], h1, _ => exact absurd h1.1 (by simp)
  | _ :: _ :: _, h1, _ => exact absurd h1.1 (by simp)
theorem Trod_agg {t : TypeId} {cs : Array Value} {d : DataW H} {ps : List MemPlace} {n : Nat} {shs : List Sh} (h : DataW.Trod enc P w base spare held t (.agg cs) d ps) (hsh : shapeOf P n t = some shs) : ∃ avs, OkAVs shs avs ∧ Rep w (old w) [] (.agg avs) (.agg cs) := by
  obtain ⟨fuel, h⟩ := h
  obtain ⟨avs, h1, h2⟩ := trod_rep n fuel t _ _ _ h hsh
  refine ⟨avs, h1, ?_⟩
  have := Rep.agg (w := w) (L := old w) (β := []) avs cs.toList h2.1 h2.2
  simpa using this
end

theorem one_cell {r : Reach} {w : World} {b0 : Nat} {t : TypeId} {v : Value} (h : Value.okWide P w r b0 t v) (hs : match P.underlying t with | some (.struct _) | some (.array _ _) => False | _ => True) : v.cells = #[v] := by
  cases v <;> try rfl
  rename_i cs
  exfalso
  unfold Value.okWide at h
  split at h
  · rename_i e; rw [e] at hs; exact hs
  · rename_i e; rw [e] at hs; exact hs
  · unfold Cell.okWide at h
    split at h <;> simp_all [Cell.ok]

/-- A row's answer: the call writes new blocks alone. -/
theorem calls_old {f : FuncId} {args : List AV} {vs : List Value} {v : AV} {u : Value} {w : World} {s : List AV → Heap → Option (AV × Heap)} (hs : SpecB P f s) (h : ∃ H, s args [] = some (v, H))
    (hR : Reps w (old w) [] args vs) (hv : ∀ (w' : World) (L : Env) (β : List Nat) (u' : Value), Rep w' L β v u' → u' = u) :
    Calls P f vs.toArray w fun e w' => e = .returned u ∧ Below w.heap.size w w' := by
  obtain ⟨H, h⟩ := h
  obtain ⟨_, hc⟩ := hs args [] v H h (fun b => w.heap.size ≤ b) w [] vs (Sim.empty w (fun _ h => h)) hR
  refine hc.mono fun e w' => ?_
  rintro ⟨v', βn, D, rfl, s1, s2, s3, _⟩
  refine ⟨by rw [hv _ _ _ _ s2], s3.os, s3.tape, s3.output, s3.size, fun k hk => s3.kept k hk ?_⟩
  rintro ⟨i, o, h1, _⟩
  simp at h1
end Go.Proofs.BoatV
