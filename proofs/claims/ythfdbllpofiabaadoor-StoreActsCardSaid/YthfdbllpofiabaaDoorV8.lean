/- The evaluator is right: append, copy. -/
import Derived.Test.YthfdbllpofiabaaDoorV7
import Derived.Room.Entries
namespace Go.Proofs.BoatV
open Go
set_option linter.unusedVariables false
set_option linter.unusedSimpArgs false
variable {P : Program} {L : Env} {w : World} {β : List Nat} {H : Heap}

theorem cell?_same {w w' : World} (h : w'.heap = w.heap) (a : Addr) : w'.cell? a = w.cell? a := by simp only [World.cell?, h]

theorem loadCells_run {b off : Nat} (vs : List Value) (h : ∀ (k : Nat) (v : Value), vs[k]? = some v → w.cell? ⟨b, off + k, none⟩ = some v) : (loadCells ⟨b, off, none⟩ vs.length).run P w = .ok vs.toArray w := by
  have := loadCellsFrom_run (P := P) (w := w) (b := b) (off := off) vs 0 #[] (by simpa using h)
  simpa [loadCells] using this

theorem loadCells_zero (a : Addr) : (loadCells a 0).run P w = .ok #[] w := by simp [loadCells, loadCellsFrom]

/-- Cells from a place on are what 'firstCells' gives. -/
theorem firstCells_at {L : Env} {b off n sz c : Nat} {cells : List AV} (hc : CellsAt w L β b off cells) (hl : cells.length = n * sz) :
    ∃ vs, Reps w L β cells vs ∧ ∀ (w' : World) (m : Nat), w'.heap = w.heap → m ≤ n → (Builtin.firstCells sz m (.slice (some ⟨b, off, none⟩) n c)).run P w' = .ok (vs.take (m * sz)).toArray w' := by
  obtain ⟨vs, h1, h2⟩ := choose_list cells (fun k av u => w.cell? ⟨b, off + k, none⟩ = some u ∧ Rep w L β av u) hc
  refine ⟨vs, ⟨h1.symm, fun k av v hk hv => (h2 k av v hk hv).2⟩, fun w' m hw hm => ?_⟩
  have hms : m * sz ≤ vs.length := by rw [h1, hl]; exact Nat.mul_le_mul_right _ hm
  have := loadCells_run (P := P) (w := w') (b := b) (off := off) (vs.take (m * sz)) (fun k v hk => by
    rw [List.getElem?_take] at hk
    split at hk
    · have hkl : k < cells.length := by rw [← h1]; exact (List.getElem?_eq_some_iff.1 hk).1
      rw [cell?_same hw]
      exact (h2 k _ v (List.getElem?_eq_getElem hkl) hk).1
    · simp at hk)
  rw [List.length_take, Nat.min_eq_left hms] at this
  simpa [Builtin.firstCells] using this

theorem flatten_at {sz : Nat} : ∀ (rows : List (List AV)), (∀ (j : Nat) (row : List AV), rows[j]? = some row → row.length = sz) → rows.flatten.length = rows.length * sz ∧
    ∀ (k : Nat) (av : AV), rows.flatten[k]? = some av → ∃ j r row, rows[j]? = some row ∧ row[r]? = some av ∧ k = j * sz + r ∧ r < sz ∧ j < rows.length
  | [], h => ⟨by simp, fun k av hk => by simp at hk⟩
  | row :: rows, h => by
    have hr := h 0 row rfl
    obtain ⟨h1, h2⟩ := flatten_at rows (fun j r hj => h (j + 1) r (by simpa using hj))
    refine ⟨by simp [h1, hr, Nat.add_mul]; omega, fun k av hk => ?_⟩
    simp only [List.flatten_cons] at hk
    by_cases hlt : k < row.length
    · rw [List.getElem?_append_left hlt] at hk
      exact ⟨0, k, row, rfl, hk, by simp, by omega, by simp⟩
    · rw [List.getElem?_append_right (by omega)] at hk
      obtain ⟨j, r, row', h3, h4, h5, h6, h7⟩ := h2 _ _ hk
      exact ⟨j + 1, r, row', by simpa using h3, h4, by rw [Nat.add_mul]; omega, h6, by simp; omega⟩

/-- What is appended or copied. -/
theorem srcCells_ok (hS : Sim L w β H) {sz n : Nat} {x : AV} {u : Value} {new : List AV} (h : srcCells P H sz x = some (new, n)) (hx : Rep w L β x u) :
    new.length = n * sz ∧ (∀ w' : World, (Builtin.lenOf u).run P w' = .ok n w') ∧
    ∃ vs, Reps w L β new vs ∧ ∀ (w' : World) (m : Nat), w'.heap = w.heap → m ≤ n → (Builtin.firstCells sz m u).run P w' = .ok (vs.take (m * sz)).toArray w' := by
  unfold srcCells at h
  split at h
  · simp only [Option.some.injEq, Prod.mk.injEq] at h
    obtain ⟨rfl, rfl⟩ := h
    cases hx
    exact ⟨by simp, fun w' => by simp [Builtin.lenOf], [], Reps.nil, fun w' m _ _ => by simp [Builtin.firstCells]⟩
  · simp only [Option.some.injEq, Prod.mk.injEq] at h
    obtain ⟨rfl, rfl⟩ := h
    cases hx with
    | e0 a ha =>
    refine ⟨by simp, fun w' => by simp [Builtin.lenOf], [], Reps.nil, fun w' m _ hm => ?_⟩
    have hm0 : m = 0 := by omega
    subst hm0
    cases a with
    | none => simp [Builtin.firstCells]
    | some a => simp [Builtin.firstCells, loadCells_zero]
  · rename_i l
    split at h
    · rename_i hsz
      subst hsz
      simp only [Option.some.injEq, Prod.mk.injEq] at h
      obtain ⟨rfl, rfl⟩ := h
      cases hx
      refine ⟨by simp, fun w' => by simp [Builtin.lenOf, str_size], l.map (fun b => .int .u8 (b.toNat : Int)), ⟨by simp, fun k av v hk hv => ?_⟩, fun w' m _ hm => ?_⟩
      · simp only [List.getElem?_map, Option.map_eq_some_iff] at hk hv
        obtain ⟨b, h1, rfl⟩ := hk
        obtain ⟨b', h2, rfl⟩ := hv
        rw [h1] at h2; cases h2
        exact .int _ _
      · have he : ((⟨l.toArray⟩ : ByteArray).extract 0 m).data = (l.take m).toArray := by apply Array.ext'; simp
        simp only [Builtin.firstCells, he, Sem.run_pure, Nat.mul_one]
        congr 1
        apply Array.ext'
        simp [List.map_take]
    · simp at h
  · rename_i i off len s c
    split at h
    · rename_i cs hr
      split at h
      · rename_i hc
        obtain ⟨rfl, hle⟩ := hc
        simp only [Option.some.injEq, Prod.mk.injEq] at h
        obtain ⟨rfl, rfl⟩ := h
        cases hx with
        | sl _ _ _ _ _ b c e' n' hb hlen hcap hsh hroom hsz0 hfull =>
        have hl : ((cs.drop off).take (len * s)).length = len * s := by simp; omega
        have hca := (row_cells hS hr hb).drop off
        rw [Nat.zero_add] at hca
        have hct : CellsAt w L β b off ((cs.drop off).take (len * s)) := fun k av hk => hca k av (by
          rw [List.getElem?_take] at hk; split at hk <;> simp_all)
        obtain ⟨vs, h1, h2⟩ := firstCells_at (P := P) (c := c) hct hl
        exact ⟨hl, fun w' => by simp [Builtin.lenOf], vs, h1, h2⟩
      · simp at h
    · simp at h
  · rename_i rows s
    split at h
    · rename_i hsz
      subst hsz
      simp only [Option.some.injEq, Prod.mk.injEq] at h
      obtain ⟨rfl, rfl⟩ := h
      cases hx with
      | im _ _ a n c uu hn hlen hrow hsome hspot hr0 =>
      subst hn
      obtain ⟨hl, hf⟩ := flatten_at rows hrow
      refine ⟨hl, fun w' => by simp [Builtin.lenOf], ?_⟩
      rcases Nat.eq_zero_or_pos rows.length with h0 | h0
      · have hr0 : rows = [] := List.length_eq_zero_iff.1 h0
        subst hr0
        refine ⟨[], Reps.nil, fun w' m _ hm => ?_⟩
        have hm0 : m = 0 := by simpa using hm
        subst hm0
        cases a with
        | none => simp [Builtin.firstCells]
        | some a => simp [Builtin.firstCells, loadCells_zero]
      · obtain ⟨bl, off, rfl, hL, hlt, hc⟩ := hsome h0
        have hct : CellsAt w L β bl off rows.flatten := fun k av hk => by
          obtain ⟨j, r, row, h3, h4, h5, h6, h7⟩ := hf k av hk
          refine ⟨uu j r, by rw [h5]; exact hc j r h7 h6, (hr0 j row r av h3 h4).mono (Step.refl _ _) (fun i b h => by simp at h)⟩
        obtain ⟨vs, h1, h2⟩ := firstCells_at (P := P) (c := c) hct hl
        exact ⟨vs, h1, h2⟩
    · simp at h
  · simp at h

theorem take_all {α : Type} {l : List α} {n : Nat} (h : l.length = n) : l.take n = l := by rw [← h]; simp

theorem notInt {d : TypeDesc} (h : ∀ k, d ≠ .int k) : (match d with | .int _ => true | _ => false) = false := by
  cases d <;> first | rfl | exact absurd rfl (h _)

/-- 'append' in room, and beyond it. -/
theorem append_room {ts : Array TypeId} {t u ty e : TypeId} {d : TypeDesc} {i : TypeInfo} (h0 : ts[0]? = some t) (h1 : ts[1]? = some u) (hu : P.underlying u = some d) (hd : ∀ k, d ≠ .int k) (ht : P.underlying t = some (.slice e)) (hi : P.info? e = some i)
    {base : Option Addr} {sLen sCap n : Nat} {x : Value} (hx : (Builtin.lenOf x).run P w = .ok n w) (hle : sLen + n ≤ sCap) {new : List Value} (hf : (Builtin.firstCells i.size n x).run P w = .ok new.toArray w) :
    (Builtin.append_ ts ty #[.slice base sLen sCap, x]).run P w = ((match base with | some a => storeCells (a.add (sLen * i.size)) new | none => pure ()).run P w).andThen fun _ w' => .ok (.slice base (sLen + n) sCap) w' := by
  have hz := notInt hd
  cases base with
  | none => simp [Builtin.append_, h0, h1, underlying_run ht, underlying_run hu, sizeOf, typeInfo_run hi, hx, hle, hf, hz]
  | some a => simp [Builtin.append_, h0, h1, underlying_run ht, underlying_run hu, sizeOf, typeInfo_run hi, hx, hle, hf, hz]

theorem append_grow {ts : Array TypeId} {t u ty e : TypeId} {d : TypeDesc} {i : TypeInfo} {z : Value} (h0 : ts[0]? = some t) (h1 : ts[1]? = some u) (hu : P.underlying u = some d) (hd : ∀ k, d ≠ .int k) (ht : P.underlying t = some (.slice e)) (hi : P.info? e = some i)
    (hz : i.zero = some z) (hby : 0 < i.bytes) {base : Option Addr} {sLen sCap n : Nat} {x : Value} (hx : (Builtin.lenOf x).run P w = .ok n w) (hgt : sCap < sLen + n) (hb : (sLen + n) * i.bytes ≤ 140737488355328) {new old : List Value}
    (hf : (Builtin.firstCells i.size n x).run P w.drew = .ok new.toArray w.drew) (hfo : (Builtin.firstCells i.size sLen (.slice base sLen sCap)).run P w.drew = .ok old.toArray w.drew) :
    ∃ extra : Array Value, extra.size = (grownCap w (sLen + n) sCap e - (sLen + n)) * z.cells.size ∧ (Builtin.append_ ts ty #[.slice base sLen sCap, x]).run P w =
      .ok (.slice (some ⟨w.heap.size, 0, none⟩) (sLen + n) (grownCap w (sLen + n) sCap e)) (w.drew.alloc (.cells ((old ++ new).toArray ++ extra) e)) := by
  refine ⟨Builtin.zeroCells z.cells (grownCap w (sLen + n) sCap e - (sLen + n)), by simp [Builtin.zeroCells], ?_⟩
  have hzz := notInt hd
  have hn : ¬ (sLen + n ≤ sCap) := by omega
  have hle : sLen + n ≤ (sLen + n) * i.bytes := Nat.le_mul_of_pos_right _ hby
  have hb0 : i.bytes ≠ 0 := by omega
  have h48' : ¬ (281474976710656 < Builtin.nextslicecap (sLen + n) sCap * i.bytes) := by have := growslice_fits hgt hb; omega
  simp [Builtin.append_, h0, h1, underlying_run ht, underlying_run hu, sizeOf, typeInfo, zeroValue, hi, hz, hx, hn, hzz, hb0, h48', Question.forced, hf, hfo, newRow, grownCap, run_askRoom]
  congr 2
  apply Array.ext'
  simp

/-- An object goes by a new number. -/
theorem Sim.move {L : Env} {w : World} {β : List Nat} {H : Heap} (hS : Sim L w β H) {i b : Nat} {o : AO} (hi : H[i]? = some o) (ho : o ≠ .dead) (hb : β[i]? = some b) :
    Sim L w (β ++ [b]) (H.set i .dead ++ [o]) ∧ Step w (LiveAt β H) w (LiveAt (β ++ [b]) (H.set i .dead ++ [o])) := by
  have hlt : i < H.length := (List.getElem?_eq_some_iff.1 hi).1
  have old : ∀ (j : Nat) (x : AO), (H.set i .dead ++ [o])[j]? = some x → x ≠ .dead → (∃ c, (β ++ [b])[j]? = some c) → (j ≠ i ∧ j < H.length ∧ H[j]? = some x) ∨ (j = H.length ∧ x = o) := fun j x hx hx' _ => by
    rcases Nat.lt_trichotomy j H.length with hj | hj | hj
    · rw [List.getElem?_append_left (by simpa using hj)] at hx
      by_cases hij : i = j
      · subst hij; simp [hlt] at hx; exact absurd hx.symm hx'
      · rw [List.getElem?_set_ne hij] at hx; exact .inl ⟨fun e => hij e.symm, hj, hx⟩
    · subst hj
      rw [List.getElem?_append_right (by simp)] at hx
      simp at hx; exact .inr ⟨rfl, hx.symm⟩
    · have : (H.set i .dead ++ [o])[j]? = none := by simp; omega
      rw [this] at hx; cases hx
  have bold : ∀ (j c : Nat), (β ++ [b])[j]? = some c → j < H.length → β[j]? = some c := fun j c h hj => by
    rwa [List.getElem?_append_left (by have := hS.len; omega)] at h
  have bnew : ∀ c, (β ++ [b])[H.length]? = some c → c = b := fun c h => by rw [← hS.len] at h; simpa using h.symm
  have hlive : ∀ c, LiveAt (β ++ [b]) (H.set i .dead ++ [o]) c → LiveAt β H c := by
    rintro c ⟨j, x, h1, h2, h3⟩
    rcases old j x h1 h2 ⟨c, h3⟩ with ⟨_, hj, hx⟩ | ⟨hj, hx⟩
    · exact ⟨j, x, hx, h2, bold j c h3 hj⟩
    · subst hj; have := bnew c h3; subst this; exact ⟨i, o, hi, ho, hb⟩
  have hst : Step w (LiveAt β H) w (LiveAt (β ++ [b]) (H.set i .dead ++ [o])) := Step.less hlive
  refine ⟨⟨by simp [hS.len], fun j c hj => ?_, fun j k x y c h1 h2 h3 h4 h5 h6 => ?_, fun j x c h1 h2 h3 => ?_, fun c hc => hS.dis c (hlive c hc), hS.big⟩, hst⟩
  · rcases Nat.lt_trichotomy j β.length with h | h | h
    · rw [List.getElem?_append_left h] at hj; exact hS.lt j c hj
    · subst h; simp at hj; subst hj; exact hS.lt i _ hb
    · have : (β ++ [b])[j]? = none := by simp; omega
      rw [this] at hj; cases hj
  · rcases old j x h1 h2 ⟨c, h5⟩ with ⟨a1, a2, a3⟩ | ⟨a1, a2⟩ <;> rcases old k y h3 h4 ⟨c, h6⟩ with ⟨b1, b2, b3⟩ | ⟨b1, b2⟩
    · exact hS.inj j k x y c a3 h2 b3 h4 (bold j c h5 a2) (bold k c h6 b2)
    · subst b1; have := bnew c h6; subst this
      exact absurd (hS.inj j i x o c a3 h2 hi ho (bold j c h5 a2) hb) a1
    · subst a1; have := bnew c h5; subst this
      exact absurd (hS.inj k i y o c b3 h4 hi ho (bold k c h6 b2) hb) b1
    · omega
  · rcases old j x h1 h2 ⟨c, h3⟩ with ⟨a1, a2, a3⟩ | ⟨a1, a2⟩
    · obtain ⟨z, hz, hr⟩ := hS.obj j x c a3 h2 (bold j c h3 a2)
      exact ⟨z, hz, hr.mono (hS.wide hst) (fun _ _ h => get_append_left h)⟩
    · subst a1; subst a2; have := bnew c h3; subst this
      obtain ⟨z, hz, hr⟩ := hS.obj i x c hi ho hb
      exact ⟨z, hz, hr.mono (hS.wide hst) (fun _ _ h => get_append_left h)⟩

theorem grownCap_room {e : TypeId} {need old : Nat} {size : Nat} {z : Value} (hzs : z.cells.size = size) : grownCap w need old e * size = need * size + (grownCap w need old e - need) * z.cells.size := by
  have h := grownCap_ge w need old e
  rw [hzs, ← Nat.add_mul]
  congr 1; omega

theorem set_length {α : Type} (l : List α) (i : Nat) (a : α) : (l.set i a).length = l.length := by simp

theorem Reps.append {L : Env} {xs ys : List AV} {us vs : List Value} (h : Reps w L β xs us) (k : Reps w L β ys vs) : Reps w L β (xs ++ ys) (us ++ vs) := by
  refine ⟨by simp [h.1, k.1], fun q a v h1 h2 => ?_⟩
  rcases Nat.lt_or_ge q xs.length with hq | hq
  · rw [List.getElem?_append_left hq] at h1
    rw [List.getElem?_append_left (by have := h.1; omega)] at h2
    exact h.2 q a v h1 h2
  · rw [List.getElem?_append_right hq] at h1
    rw [List.getElem?_append_right (by have := h.1; omega), ← h.1] at h2
    exact k.2 _ a v h1 h2

/-- The grown slice. -/
theorem grown_ok (hS : Sim L w β H) {ts : Array TypeId} {t u ty e : TypeId} {d : TypeDesc} {i : TypeInfo} {z : Value} (h0 : ts[0]? = some t) (h1 : ts[1]? = some u) (hu : P.underlying u = some d) (hd : ∀ k, d ≠ .int k) (ht : P.underlying t = some (.slice e)) (hi : P.info? e = some i)
    (hz : i.zero = some z) (hzs : z.cells.size = i.size) (hsz : 0 < i.size) (hby : 0 < i.bytes) {base : Option Addr} {sLen sCap n : Nat} {x : Value} (hx : (Builtin.lenOf x).run P w = .ok n w) (hgt : sCap < sLen + n) (hb : (sLen + n) * i.bytes ≤ 140737488355328)
    {new old : List Value} {nas oas : List AV} (hf : (Builtin.firstCells i.size n x).run P w.drew = .ok new.toArray w.drew) (hfo : (Builtin.firstCells i.size sLen (.slice base sLen sCap)).run P w.drew = .ok old.toArray w.drew)
    (hn : Reps w L β nas new) (ho : Reps w L β oas old) (hnl : new.length = n * i.size) (hol : old.length = sLen * i.size)
    {H1 : Heap} (hH1 : Sim L w β H1 ∧ Step w (LiveAt β H) w (LiveAt β H1)) :
    ∃ r w' βn, (Builtin.append_ ts ty #[.slice base sLen sCap, x]).run P w = .ok r w' ∧ Sim L w' (β ++ βn) (grownA H1 i.size oas nas (sLen + n)).2 ∧
      Rep w' L (β ++ βn) (grownA H1 i.size oas nas (sLen + n)).1 r ∧ Step w (LiveAt β H) w' (LiveAt (β ++ βn) (grownA H1 i.size oas nas (sLen + n)).2) := by
  obtain ⟨extra, hes, hrun⟩ := append_grow (P := P) (w := w) (ty := ty) h0 h1 hu hd ht hi hz hby hx hgt hb hf hfo
  have hvs : Reps w L β (oas ++ nas) (old ++ new) := ho.append hn
  have hr := newSlice_ok hH1.1 hvs e extra (w' := w.drew.alloc (.cells ((old ++ new).toArray ++ extra) e)) (len := sLen + n) (c := grownCap w (sLen + n) sCap e) (sz := i.size) (cap := none) rfl rfl rfl rfl (grownCap_ge _ _ _ _) (by simp)
    (by rw [hes, List.length_append, hnl, hol]; have := grownCap_room (w := w) (e := e) (need := sLen + n) (old := sCap) hzs; rw [Nat.add_mul] at this; omega) hsz (fun _ => by rw [hes, List.length_append, hnl, hol]; have := grownCap_room (w := w) (e := e) (need := sLen + n) (old := sCap) hzs; rw [Nat.add_mul] at this; omega)
  exact ⟨_, _, [w.heap.size], hrun, hr.1, hr.2.1, hH1.2.trans hr.2.2⟩

theorem appendA_ok (hS : Sim L w β H) {ts : Array TypeId} {t u ty : TypeId} {d : TypeDesc} (h0 : ts[0]? = some t) (h1 : ts[1]? = some u) (hu : P.underlying u = some d) (hd : ∀ k, d ≠ .int k) {s x av : AV} {vs vx : Value} {H' : Heap}
    (h : appendA P H t s x = some (av, H')) (hs : Rep w L β s vs) (hx : Rep w L β x vx) :
    ∃ r w' βn, (Builtin.append_ ts ty #[vs, vx]).run P w = .ok r w' ∧ Sim L w' (β ++ βn) H' ∧ Rep w' L (β ++ βn) av r ∧ Step w (LiveAt β H) w' (LiveAt (β ++ βn) H') := by
  unfold appendA at h
  split at h
  · rename_i e ht
    split at h
    · rename_i i z hi hz
      split at h
      · rename_i new n hsrc
        split at h
        · rename_i hc
          obtain ⟨hsp, hby, hone, hzl⟩ := hc
          obtain ⟨i', zv, hi', hiz, hzv⟩ := zeroOf_info hz
          rw [hi] at hi'; cases hi'
          have hzs : zv.cells.size = i.size := by
            have := (cells_reps (ofV_rep (w := w) (L := L) (β := β) hzv) (ofV_ne hzv)).1
            rw [hzl] at this; simpa using this.symm
          obtain ⟨hnl, hlen, nvs, hnr, hnf⟩ := srcCells_ok (P := P) hS hsrc hx
          have hnvl : nvs.length = n * i.size := by rw [← hnr.1]; exact hnl
          have hff : ∀ w' : World, w'.heap = w.heap → (Builtin.firstCells i.size n vx).run P w' = .ok nvs.toArray w' := fun w' hw => by
            have := hnf w' n hw (Nat.le_refl _)
            rwa [take_all hnvl] at this
          split at h
          · cases hs
            split at h
            · rename_i hn
              subst hn
              simp only [Option.some.injEq, Prod.mk.injEq] at h
              obtain ⟨rfl, rfl⟩ := h
              have hr := append_room (P := P) (ty := ty) h0 h1 hu hd ht hi (base := none) (sLen := 0) (sCap := 0) (hlen w) (Nat.le_refl _) (hff w rfl)
              exact ⟨.slice none 0 0, w, [], by simpa using hr, by simpa using hS, .snil, by simpa using Step.refl _ _⟩
            · rename_i hn
              split at h
              · rename_i hb
                simp only [Option.some.injEq, Prod.mk.injEq] at h
                obtain ⟨rfl, rfl⟩ := h
                have := grown_ok (P := P) (ty := ty) hS h0 h1 hu hd ht hi hiz hzs hsp hby (base := none) (sLen := 0) (sCap := 0) (old := []) (oas := []) (hlen w) (by omega) (by simpa using hb) (hff w.drew rfl) (by simp [Builtin.firstCells]) hnr Reps.nil hnvl (by simp) ⟨hS, Step.refl _ _⟩
                rw [Nat.zero_add] at this; exact this
              · simp at h
          · cases hs with
            | e0 a ha =>
            split at h
            · rename_i hn
              subst hn
              simp only [Option.some.injEq, Prod.mk.injEq] at h
              obtain ⟨rfl, rfl⟩ := h
              have hr := append_room (P := P) (ty := ty) h0 h1 hu hd ht hi (base := a) (sLen := 0) (sCap := 0) (hlen w) (Nat.le_refl _) (hff w rfl)
              have hnil : nvs = [] := List.length_eq_zero_iff.1 (by simpa using hnvl)
              subst hnil
              refine ⟨.slice a 0 0, w, [], ?_, by simpa using hS, .e0 a ha, by simpa using Step.refl _ _⟩
              rw [hr]; cases a <;> simp [storeCells]
            · rename_i hn
              split at h
              · rename_i hb
                simp only [Option.some.injEq, Prod.mk.injEq] at h
                obtain ⟨rfl, rfl⟩ := h
                have := grown_ok (P := P) (ty := ty) hS h0 h1 hu hd ht hi hiz hzs hsp hby (base := a) (sLen := 0) (sCap := 0) (old := []) (oas := []) (hlen w) (by omega) (by simpa using hb) (hff w.drew rfl)
                  (by cases a <;> simp [Builtin.firstCells, loadCells_zero]) hnr Reps.nil hnvl (by simp) ⟨hS, Step.refl _ _⟩
                rw [Nat.zero_add] at this; exact this
              · simp at h
          · rename_i j off len sz cap
            split at h
            · rename_i hsz
              subst hsz
              cases hs with
              | sl _ _ _ _ _ b c e' n' hb hlc hcap hsh hroom hsz0 hfull =>
              split at h
              · rename_i hn
                subst hn
                simp only [Option.some.injEq, Prod.mk.injEq] at h
                obtain ⟨rfl, rfl⟩ := h
                have hr := append_room (P := P) (ty := ty) h0 h1 hu hd ht hi (base := some ⟨b, off, none⟩) (sLen := len) (sCap := c) (hlen w) (by omega) (hff w rfl)
                have hnil : nvs = [] := List.length_eq_zero_iff.1 (by simpa using hnvl)
                subst hnil
                exact ⟨.slice (some ⟨b, off, none⟩) len c, w, [], by simpa [storeCells] using hr, by simpa using hS, by simpa using Rep.sl j off len i.size cap b c e' n' hb hlc hcap hsh hroom hsz0 hfull, by simpa using Step.refl _ _⟩
              · rename_i hn
                split at h
                · rename_i hbb
                  split at h
                  · rename_i cs hrow
                    have hca := row_cells hS hrow hb
                    split at h
                    · rename_i c'
                      have hcc := hcap _ rfl
                      subst hcc
                      split at h
                      · rename_i hle
                        simp only [Option.map_eq_some_iff, Prod.mk.injEq] at h
                        obtain ⟨cs', hset, rfl, rfl⟩ := h
                        have hst : storeAt H j (off + len * i.size) new = some (H.set j (.row cs')) := by simp [storeAt, hrow, hone, hset]
                        obtain ⟨w', r1, r2, r3⟩ := store_row (P := P) hS hb hnr hst
                        have hr := append_room (P := P) (ty := ty) h0 h1 hu hd ht hi (base := some ⟨b, off, none⟩) (sLen := len) (sCap := c') (hlen w) hle (hff w rfl)
                        refine ⟨.slice (some ⟨b, off, none⟩) (len + n) c', w', [], ?_, by simpa using r2, ?_, by simpa using r3⟩
                        · rw [hr]; simp only [add_none]; rw [r1]; rfl
                        · simpa using Rep.sl (w := w') (L := L) j off (len + n) i.size (some c') b c' e' n' hb hle hcap (r3.shape _ _ hsh) hroom hsz0 (by simp)
                      · rename_i hgt
                        split at h
                        · rename_i hol
                          simp only [Option.some.injEq, Prod.mk.injEq] at h
                          obtain ⟨rfl, rfl⟩ := h
                          have hd1 := hca.drop off
                          rw [Nat.zero_add] at hd1
                          have hl : ((cs.drop off).take (len * i.size)).length = len * i.size := by simp; omega
                          have hct : CellsAt w L β b off ((cs.drop off).take (len * i.size)) := fun k av hk => hd1 k av (by
                            rw [List.getElem?_take] at hk; split at hk <;> simp_all)
                          obtain ⟨ovs, o1, o2⟩ := firstCells_at (P := P) (c := c') hct hl
                          have hovl : ovs.length = len * i.size := by rw [← o1.1]; exact hl
                          exact grown_ok (P := P) (ty := ty) hS h0 h1 hu hd ht hi hiz hzs hsp hby (base := some ⟨b, off, none⟩) (sLen := len) (sCap := c') (hlen w) (by omega) hbb (hff w.drew rfl)
                            (by have := o2 w.drew len rfl (Nat.le_refl _); rwa [take_all hovl] at this) hnr o1 hnvl hovl ⟨hS, Step.refl _ _⟩
                        · simp at h
                    · split at h
                      · rename_i hc2
                        obtain ⟨rfl, hcl⟩ := hc2
                        simp only [Option.some.injEq, Prod.mk.injEq] at h
                        obtain ⟨rfl, rfl⟩ := h
                        by_cases hle : len + n ≤ c
                        · obtain ⟨x, hx0, hR⟩ := hS.obj j _ b (rowAt_eq hrow) (by simp) hb
                          cases hR with
                          | row _ vs ee fr hlen' hfr hcells =>
                          have hshx : w.shape? b = some (ee, vs.size) := by simp [World.shape?, hx0]
                          rw [hshx] at hsh
                          simp only [Option.some.injEq, Prod.mk.injEq] at hsh
                          obtain ⟨rfl, rfl⟩ := hsh
                          have hle2 : (len + n) * i.size ≤ c * i.size := Nat.mul_le_mul_right _ hle
                          rw [Nat.add_mul] at hle2
                          obtain ⟨c', r1, r2, r3⟩ := storeCells_run (P := P) (b := b) (off := len * i.size) (e := ee) (fr := fr) nvs 0 w vs hx0 (by omega) hfr (hnr.ones hone)
                          have hbs : b < w.heap.size := hS.lt j b hb
                          have hup := Sim.update hS (o' := .row (cs ++ new)) (rowAt_eq hrow) (by simp) (by simp) hb (w' := World.withRow w b c' ee fr) rfl rfl rfl (by simp [World.withRow]) (fun k hk => withRow_other hk)
                            (fun s hs => by simp only [World.shape?, hx0, withRow_heap hbs] at hs ⊢; rw [r2]; exact hs) (fun hst => ⟨_, withRow_heap hbs, by
                              refine .row _ c' ee fr (by simp; omega) (by rw [r2]; exact hfr) (fun k av hk => ?_)
                              rcases Nat.lt_or_ge k cs.length with hk1 | hk1
                              · rw [List.getElem?_append_left hk1] at hk
                                obtain ⟨v, hv, hrep⟩ := hcells k av hk
                                refine ⟨v, ?_, hrep.mono hst (fun _ _ h => h)⟩
                                rw [r3 k, if_neg (by omega)]; exact hv
                              · rw [List.getElem?_append_right hk1] at hk
                                obtain ⟨v, hv, hrep⟩ := hnr.at hk
                                have := (List.getElem?_eq_some_iff.1 hk).1
                                refine ⟨v, ?_, hrep.mono hst (fun _ _ h => h)⟩
                                rw [r3 k, if_pos (by omega), show k - (len * i.size + 0) = k - cs.length by omega]; exact hv⟩)
                          have hjl : j < H.length := (List.getElem?_eq_some_iff.1 (rowAt_eq hrow)).1
                          have hmv := Sim.move hup.1 (i := j) (b := b) (o := .row (cs ++ new)) (by simp [hjl]) (by simp) hb
                          rw [List.set_set] at hmv
                          have hr := append_room (P := P) (ty := ty) h0 h1 hu hd ht hi (base := some ⟨b, 0, none⟩) (sLen := len) (sCap := c) (hlen w) hle (hff w rfl)
                          have hst := hup.2.trans hmv.2
                          refine ⟨.slice (some ⟨b, 0, none⟩) (len + n) c, _, [b], ?_, hmv.1, ?_, hst⟩
                          · rw [hr]; simp only [add_none, Nat.zero_add]; rw [r1]; rfl
                          · refine .sl _ _ _ _ _ b c ee vs.size ?_ hle (by simp) (hst.shape _ _ hshx) hroom hsz0 (fun _ => hfull rfl)
                            simpa [grownA] using new_at hS b
                        · have hl : cs.length = len * i.size := hcl
                          obtain ⟨ovs, o1, o2⟩ := firstCells_at (P := P) (c := c) hca hl
                          have hovl : ovs.length = len * i.size := by rw [← o1.1]; exact hl
                          exact grown_ok (P := P) (ty := ty) hS h0 h1 hu hd ht hi hiz hzs hsp hby (base := some ⟨b, 0, none⟩) (sLen := len) (sCap := c) (hlen w) (by omega) hbb (hff w.drew rfl)
                            (by have := o2 w.drew len rfl (Nat.le_refl _); rwa [take_all hovl] at this) hnr o1 hnvl hovl (Sim.kill hS j)
                      · simp at h
                  · simp at h
                · simp at h
            · simp at h
          · simp at h
        · simp at h
      · simp at h
    · simp at h
  · simp at h

theorem copyA_ok (hS : Sim L w β H) {ts : Array TypeId} {t ty : TypeId} (h0 : ts[0]? = some t) {x y av : AV} {u v : Value} {H' : Heap} (h : copyA P H t x y = some (av, H')) (hx : Rep w L β x u) (hy : Rep w L β y v) :
    ∃ r w', (Builtin.copy_ ts ty #[u, v]).run P w = .ok r w' ∧ Sim L w' β H' ∧ Rep w' L β av r ∧ Step w (LiveAt β H) w' (LiveAt β H') := by
  unfold copyA at h
  split at h
  · rename_i e ht
    split at h
    · rename_i sz hsz
      split at h
      · rename_i new n hsrc
        obtain ⟨hnl, hlen, nvs, hnr, hnf⟩ := srcCells_ok (P := P) hS hsrc hy
        have hnvl : nvs.length = n * sz := by rw [← hnr.1]; exact hnl
        split at h
        · rename_i j off len s c
          split at h
          · rename_i hc
            obtain ⟨rfl, hs0⟩ := hc
            cases hx with
            | sl _ _ _ _ _ b c e' n' hb hlc hcap hsh hroom hsz0 hfull =>
            simp only [Option.map_eq_some_iff, Prod.mk.injEq] at h
            obtain ⟨H1, hst, rfl, rfl⟩ := h
            have htk : Reps w L β (new.take (min n len * s)) (nvs.take (min n len * s)) := ⟨by simp [hnl, hnvl], fun k av v h1 h2 => by
              rw [List.getElem?_take] at h1 h2
              split at h1
              · rw [if_pos ‹_›] at h2; exact hnr.2 k av v h1 h2
              · simp at h1⟩
            obtain ⟨w', r1, r2, r3⟩ := store_row (P := P) hS hb htk hst
            have hf := hnf w (min n len) rfl (Nat.min_le_left _ _)
            refine ⟨.int .i64 (min n len : Nat), w', ?_, r2, .int _ _, r3⟩
            have e1 : Nat.min n len = min n len := rfl
            simp only [Builtin.copy_, h0, Sem.run_bind, underlying_run ht, Result.andThen_ok, hlen, sizeOf_run hsz, e1, hf, r1, goInt, Sem.run_pure, List.getElem?_toArray, List.getElem?_cons_zero, List.getElem?_cons_succ]
          · simp at h
        · simp only [Option.some.injEq, Prod.mk.injEq] at h
          obtain ⟨rfl, rfl⟩ := h
          cases hx
          have hf := hnf w 0 rfl (Nat.zero_le _)
          refine ⟨.int .i64 0, w, ?_, hS, .int _ _, Step.refl _ _⟩
          simp [Builtin.copy_, h0, underlying_run ht, hlen, sizeOf_run hsz, hf, goInt]
        · simp only [Option.some.injEq, Prod.mk.injEq] at h
          obtain ⟨rfl, rfl⟩ := h
          cases hx with
          | e0 a ha =>
          have hf := hnf w 0 rfl (Nat.zero_le _)
          refine ⟨.int .i64 0, w, ?_, hS, .int _ _, Step.refl _ _⟩
          cases a <;> simp [Builtin.copy_, h0, underlying_run ht, hlen, sizeOf_run hsz, hf, goInt, storeCells]
        · simp at h
      · simp at h
    · simp at h
  · simp at h

end Go.Proofs.BoatV
