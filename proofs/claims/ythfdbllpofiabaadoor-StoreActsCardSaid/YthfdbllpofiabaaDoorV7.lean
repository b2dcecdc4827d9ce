/- The evaluator is right: new variables, slices made, conversions, maps, lengths. -/
import Derived.Test.YthfdbllpofiabaaDoorV6
import Derived.Laws.MakeOwn
import Derived.Laws.Bits64
namespace Go.Proofs.BoatV
open Go
set_option linter.unusedVariables false
set_option linter.unusedSimpArgs false
variable {P : Program} {L : Env} {w : World} {β : List Nat} {H : Heap}

theorem new_at (hS : Sim L w β H) (b : Nat) : (β ++ [b])[H.length]? = some b := by rw [← hS.len]; simp

/-- A new variable. -/
theorem newVar_ok (hS : Sim L w β H) {e : TypeId} {av : AV} {v : Value} (h : Rep w L β av v) (hne : av ≠ .top) :
    ∃ w', (newVar e v).run P w = .ok ⟨w.heap.size, 0, none⟩ w' ∧ Sim L w' (β ++ [w.heap.size]) (H ++ [.row av.cells]) ∧ Step w (LiveAt β H) w' (LiveAt (β ++ [w.heap.size]) (H ++ [.row av.cells])) := by
  refine ⟨w.alloc (.cells v.cells e), by simp [newVar, newRow], ?_⟩
  exact new_row hS (cells_reps h hne) e #[] rfl rfl rfl (by show w.heap.push _ = _; simp)

theorem repeatZ_reps {L : Env} {z : List AV} {vz : Array Value} (h : Reps w L β z vz.toList) (h0 : 0 < z.length) (n : Nat) : Reps w L β (repeatZ z n) ((Array.range n).map (vz[· % vz.size]!)).toList := by
  have hl : vz.size = z.length := by rw [h.1]; simp
  refine ⟨by simp [repeatZ], fun k av v hk hv => ?_⟩
  have hkn : k < n := by have := (List.getElem?_eq_some_iff.1 hk).1; simpa [repeatZ] using this
  have hm : k % z.length < z.length := Nat.mod_lt _ h0
  have e1 : (repeatZ z n)[k]? = some (z.getD (k % z.length) .undef) := by simp [repeatZ, hkn]
  rw [e1] at hk
  have e2 : ((Array.range n).map (vz[· % vz.size]!)).toList[k]? = some (vz[k % vz.size]!) := by simp [hkn]
  rw [e2] at hv
  have hm' : k % vz.size < vz.size := by rw [hl]; exact hm
  refine h.2 (k % z.length) av v ?_ ?_
  · rw [← hk]; simp [List.getD_eq_getElem?_getD, hm]
  · rw [← hv, ← hl]; simp [hm']

theorem shape_alloc {w' : World} {c : Array Value} {e : TypeId} {fr : Nat × Nat} {b : Nat} (h : w'.heap[b]? = some (.cells c e fr)) : w'.shape? b = some (e, c.size) := by simp [World.shape?, h]

/-- A new row that a slice stands on. -/
theorem newSlice_ok (hS : Sim L w β H) {avs : List AV} {vs : List Value} (hvs : Reps w L β avs vs) (e : TypeId) (extra : Array Value) {w' : World} {len c sz : Nat} {cap : Option Nat}
    (hos : w'.os = w.os) (htape : w'.tape = w.tape) (hout : w'.output = w.output) (hheap : w'.heap = w.heap.push (.cells (vs.toArray ++ extra) e (0, 0)))
    (hlen : len ≤ c) (hcap : ∀ k, cap = some k → k = c) (hroom : c * sz ≤ vs.length + extra.size) (hsz : 0 < sz) (hfull : cap = none → c * sz = vs.length + extra.size) :
    Sim L w' (β ++ [w.heap.size]) (H ++ [.row avs]) ∧ Rep w' L (β ++ [w.heap.size]) (.sl H.length 0 len sz cap) (.slice (some ⟨w.heap.size, 0, none⟩) len c) ∧
      Step w (LiveAt β H) w' (LiveAt (β ++ [w.heap.size]) (H ++ [.row avs])) := by
  obtain ⟨h1, h2⟩ := new_row hS hvs e extra hos htape hout hheap
  refine ⟨h1, .sl _ _ _ _ _ w.heap.size c e (vs.toArray ++ extra).size (new_at hS _) hlen hcap (shape_alloc (by rw [hheap]; simp; rfl)) (by simp; omega) hsz (fun hn => by have := hfull hn; simp; omega), h2⟩

theorem buildSliceA_ok (hS : Sim L w β H) {t : TypeId} {len : Nat} {l : List (Nat × AV)} {m : Array (Nat × Value)} {av : AV} {H' : Heap} (h : buildSliceA P H t len l = some (av, H')) (hl : PReps w L β l m.toList) :
    ∃ r w' βn, (Instr.buildSlice t len m).run P w = .ok r w' ∧ Sim L w' (β ++ βn) H' ∧ Rep w' L (β ++ βn) av r ∧ Step w (LiveAt β H) w' (LiveAt (β ++ βn) H') := by
  unfold buildSliceA at h
  split at h
  · rename_i e hu
    split at h
    · rename_i n z hn hz
      split at h
      · rename_i hc
        obtain ⟨hsm, hzl, hn0⟩ := hc
        simp only [Option.map_eq_some_iff, Prod.mk.injEq] at h
        obtain ⟨cs, h1, rfl, rfl⟩ := h
        obtain ⟨i, zv, hi, hiz, hzv⟩ := zeroOf_info hz
        obtain ⟨i', hi', his⟩ := szOf_info hn
        rw [hi] at hi'; cases hi'
        have hzr := cells_reps (ofV_rep (w := w) (L := L) (β := β) hzv) (ofV_ne hzv)
        have hrz := repeatZ_reps hzr (by omega) (len * n)
        have hlz : cs.length = len * n ∨ True := .inr trivial
        obtain ⟨arr, g1, g2⟩ := fill_ok _ l m.toList _ cs _ hl hrz h1
        have hcs : cs.length = len * n := by
          have key : ∀ (l : List (Nat × AV)) (c0 c1 : List AV), fillA (fun i => some (i * n, n)) c0 l = some c1 → c1.length = c0.length := by
            intro l
            induction l with
            | nil => intro c0 c1 h; simp [fillA] at h; rw [h]
            | cons x l ih =>
              intro c0 c1 h
              obtain ⟨i, v⟩ := x
              simp only [fillA] at h
              split at h
              · simp only [Option.bind_eq_some_iff] at h
                obtain ⟨c2, h3, h4⟩ := h
                rw [ih _ _ h4]; exact (setAt_spec _ _ _ _ h3).1
              · simp at h
          rw [key _ _ _ h1]; simp [repeatZ]
        have harr : arr.size = len * n := by rw [← hcs, g2.1]; simp
        have hr := newSlice_ok hS g2 e #[] (w' := w.alloc (.cells arr e)) (len := len) (c := len) (sz := n) (cap := some len) rfl rfl rfl (by show w.heap.push _ = _; simp) (Nat.le_refl _) (by simp) (by simp [harr]) hn0 (by simp)
        refine ⟨_, _, [w.heap.size], ?_, hr.1, hr.2.1, hr.2.2⟩
        by_cases hp : len * n = 0
        · have hr0 : (Array.range (len * n)).map (zv.cells[· % zv.cells.size]!) = #[] := by rw [hp]; simp
          rw [hr0] at g1
          have e0 : ∀ f : Nat → Value, (Array.range 0).map f = #[] := fun f => by apply Array.ext'; simp
          simp only [Instr.buildSlice, Sem.run_bind, underlying_run hu, Result.andThen_ok, sizeOf_run hn, hp, if_pos rfl, Sem.run_pure, if_neg (show ¬ (0 : Nat) > 2 ^ 24 by decide), e0, g1]
          simp [newRow]
        · have hsm' : ¬ len * n > 16777216 := by omega
          simp [Instr.buildSlice, underlying_run hu, sizeOf_run hn, hsm', hp, g1, newRow, zeroValue, typeInfo_run hi, hiz]
      · simp at h
    · simp at h
  · simp at h

theorem makeSliceA_ok (hS : Sim L w β H) {t : TypeId} {x y av : AV} {u v : Value} {H' : Heap} (h : makeSliceA P H t x y = some (av, H')) (hx : Rep w L β x u) (hy : Rep w L β y v) :
    ∃ r w' βn, (Instr.makeSlice t u v).run P w = .ok r w' ∧ Sim L w' (β ++ βn) H' ∧ Rep w' L (β ++ βn) av r ∧ Step w (LiveAt β H) w' (LiveAt (β ++ βn) H') := by
  unfold makeSliceA at h
  split at h
  · rename_i kl l kc c
    split at h
    · rename_i e hu
      split at h
      · rename_i i z hi hz
        split at h
        · rename_i hc
          obtain ⟨h0, hlc, hc1, hb, hzl, hn0⟩ := hc
          simp only [Option.some.injEq, Prod.mk.injEq] at h
          obtain ⟨rfl, rfl⟩ := h
          obtain ⟨i', zv, hi', hiz, hzv⟩ := zeroOf_info hz
          rw [hi] at hi'; cases hi'
          have hzr := cells_reps (ofV_rep (w := w) (L := L) (β := β) hzv) (ofV_ne hzv)
          have hrz := repeatZ_reps hzr (by omega) (c.toNat * i.size)
          cases hx; cases hy
          have hrun := run_make (P := P) w t e i zv hu hi hiz kl kc l c h0 hlc (by omega) (by omega)
          have hr := newSlice_ok hS hrz e #[] (w' := w.alloc (.cells (madeCells zv.cells (c.toNat * i.size)) e)) (len := l.toNat) (c := c.toNat) (sz := i.size) (cap := some c.toNat) rfl rfl rfl (by show w.heap.push _ = _; rw [Array.toArray_toList, Array.append_empty]; rfl) (by omega) (by simp) (by simp) hn0 (by simp)
          exact ⟨_, _, [w.heap.size], hrun, hr.1, hr.2.1, hr.2.2⟩
        · simp at h
      · simp at h
    · simp at h
  · simp at h

theorem bytesOfCells_spec : ∀ {cs : List AV} {l : List UInt8}, bytesOfCells cs = some l → l.length = cs.length ∧ ∀ (j : Nat) (hj : j < l.length), cs[j]? = some (.int .u8 (l[j].toNat : Int))
  | [], l, h => by simp [bytesOfCells] at h; subst h; exact ⟨rfl, fun j hj => by simp at hj⟩
  | c :: r, l, h => by
    unfold bytesOfCells at h
    split at h
    · rename_i e; cases e
    · rename_i n r' e
      cases e
      split at h
      · rename_i hn
        simp only [Option.map_eq_some_iff] at h
        obtain ⟨l', h1, rfl⟩ := h
        obtain ⟨h2, h3⟩ := bytesOfCells_spec h1
        refine ⟨by simp [h2], fun j hj => ?_⟩
        cases j with
        | zero => simp; omega
        | succ j => simpa using h3 j (by simpa using hj)
      · simp at h
    · simp at h

theorem convA_ok {T : Tab} (hT : OpsOK L T) (hS : Sim L w β H) {s d : TypeId} {x av : AV} {u : Value} {H' : Heap} (h : convA P T H s d x = some (av, H')) (hx : Rep w L β x u) :
    H' = H ∧ ∃ r, (convert s d u).run P w = .ok r w ∧ Rep w L β av r := by
  unfold convA at h
  split at h
  · simp only [Option.map_eq_some_iff, Option.bind_eq_some_iff, Prod.mk.injEq] at h
    obtain ⟨a, ⟨v, h1, h2⟩, rfl, rfl⟩ := h
    cases hx
    exact ⟨rfl, v, pureRun_run _ _ h1 w, ofV1_rep h2⟩
  · split at h
    · rename_i hs hd
      simp only [Option.some.injEq, Prod.mk.injEq] at h
      obtain ⟨rfl, rfl⟩ := h
      cases hx
      exact ⟨rfl, _, by simp [convert, underlying_run hs, underlying_run hd], .str _⟩
    · simp at h
  · rename_i t sc ids
    split at h
    · rename_i k1 k2 hs hd
      simp only [Option.map_eq_some_iff, Prod.mk.injEq] at h
      obtain ⟨r, h1, rfl, rfl⟩ := h
      obtain ⟨x', r', h2, h3, h4⟩ := findT_ok1 hT h1 hx
      unfold opK at h2
      split at h2 <;> simp_all
      rename_i kk a
      subst h2
      cases h3
      exact ⟨_, by simp [convert, underlying_run hs, underlying_run hd, Conv.intToInt], h4 _ (.int _ _)⟩
    · rename_i hs hd
      simp only [Option.map_eq_some_iff, Prod.mk.injEq] at h
      obtain ⟨r, h1, rfl, rfl⟩ := h
      obtain ⟨x', r', h2, h3, h4⟩ := findT_ok1 hT h1 hx
      unfold opK at h2
      split at h2 <;> simp_all
      rename_i l
      subst h2
      cases h3
      exact ⟨_, by simp [convert, underlying_run hs, underlying_run hd], h4 _ (.str _)⟩
    · simp at h
  · rename_i i off len sz cap
    split at h
    · rename_i e hs hd
      split at h
      · rename_i cs he hr
        split at h
        · rename_i hc
          obtain ⟨hsz, hle⟩ := hc
          simp only [Option.map_eq_some_iff, Prod.mk.injEq] at h
          obtain ⟨l, h1, rfl, rfl⟩ := h
          cases hx with
          | sl _ _ _ _ _ b c e' n' hb hlen hcap hsh hroom hsz0 hfull =>
          obtain ⟨h2, h3⟩ := bytesOfCells_spec h1
          have hl : l.length = len := by rw [h2, List.length_take]; omega
          subst hl
          refine ⟨rfl, .string ⟨l.toArray⟩, ?_, .str l⟩
          refine run_convert_bytes_back w s d e ⟨b, off, none⟩ c l hs he hd (fun j hj => ?_)
          have hca := (row_cells hS hr hb).drop off
          have hj3 := h3 j hj
          rw [List.getElem?_take, if_pos hj] at hj3
          obtain ⟨u, hu, hrep⟩ := hca j _ hj3
          rw [add_none]
          cases hrep
          simpa using hu
        · simp at h
      · simp at h
    · simp at h
  · simp at h

/-! ### Maps -/
theorem map_obj (hS : Sim L w β H) {i b : Nat} {es : List (AV × AV)} (hm : mapAt H i = some es) (hb : β[i]? = some b) : ∃ ms clock, w.heap[b]? = some (.map ms clock) ∧ RepE w L β es ms.toList ∧ MapKept.Stamped ms clock := by
  obtain ⟨x, hx, hR⟩ := hS.obj i _ b (mapAt_eq hm) (by simp) hb
  cases hR with
  | map _ ms clock hst h => exact ⟨ms, clock, hx, h, hst⟩

theorem getObj_run {b : Nat} {x : Obj} (h : w.heap[b]? = some x) (hne : ∀ c e fr, x ≠ .cells c e fr) : (getObj b).run P w = .ok x w := by
  simp only [getObj, Sem.run]
  rw [h]
  cases x <;> simp_all

theorem sameKey_now {kd : TypeDesc} {k k' : AV} {u u' : Value} {L : Env} {r : Bool} (hfit : (∃ n, kd = .int n) ∧ (∃ j a, k = .int j a) ∨ kd = .string ∧ (∃ s, k = .str s)) (h : sameKey k k' = some r) (hk : Rep w L β k u) (hk' : Rep w L β k' u') :
    Instr.sameNow kd u u' = some r := by
  unfold sameKey at h
  split at h
  · rename_i j a j' a'
    cases hk; cases hk'
    rcases hfit with ⟨⟨n, rfl⟩, _⟩ | ⟨_, s, hs⟩
    · simpa [Instr.sameNow] using h
    · cases hs
  · rename_i a a'
    cases hk; cases hk'
    rcases hfit with ⟨_, j, c, hs⟩ | ⟨rfl, _⟩
    · cases hs
    · simp only [Instr.sameNow, str_beq]; exact h
  · simp at h

theorem keyFits_kind {kt : TypeId} {k : AV} (h : keyFits P kt k = true) : ∃ kd, P.underlying kt = some kd ∧ ((∃ n, kd = .int n) ∧ (∃ j a, k = .int j a) ∨ kd = .string ∧ (∃ s, k = .str s)) := by
  unfold keyFits at h
  split at h
  · rename_i n j a hu; exact ⟨_, hu, .inl ⟨⟨_, rfl⟩, _, _, rfl⟩⟩
  · rename_i l hu; exact ⟨_, hu, .inr ⟨rfl, _, rfl⟩⟩
  · simp at h

theorem findA_now {kd : TypeDesc} {k : AV} {u : Value} {L : Env} (hfit : (∃ n, kd = .int n) ∧ (∃ j a, k = .int j a) ∨ kd = .string ∧ (∃ s, k = .str s)) (hk : Rep w L β k u) :
    ∀ {es : List (AV × AV)} {ms : List MapEntry} {n : Nat} {r : Option (Nat × AV)}, findA k es n = some r → RepE w L β es ms →
      (r = none ∧ Instr.findNow kd u ms n = some none) ∨ (∃ j av m, r = some (n + j, av) ∧ j < es.length ∧ ms[j]? = some m ∧ Rep w L β av m.val ∧ Instr.sameNow kd u m.key = some true ∧ Instr.findNow kd u ms n = some (some (n + j, m.val)))
  | [], ms, n, r, h, hE => by
    simp [findA] at h; subst h
    have : ms = [] := List.length_eq_zero_iff.1 (by have := hE.1; simpa using this.symm)
    subst this; exact .inl ⟨rfl, rfl⟩
  | e :: es, ms, n, r, h, hE => by
    cases ms with
    | nil => have := hE.1; simp at this
    | cons m ms =>
      obtain ⟨hr1, hr2⟩ := hE.2 0 e m rfl rfl
      simp only [findA] at h
      split at h
      · rename_i hs
        simp at h; subst h
        have hsn := sameKey_now hfit hs hk hr1
        exact .inr ⟨0, e.2, m, rfl, by simp, rfl, hr2, hsn, by simp [Instr.findNow, hsn]⟩
      · rename_i hs
        have hsn := sameKey_now hfit hs hk hr1
        have hE' : RepE w L β es ms := ⟨by have := hE.1; simpa using this, fun k e m h1 h2 => hE.2 (k + 1) e m (by simpa using h1) (by simpa using h2)⟩
        rcases findA_now hfit hk h hE' with ⟨h1, h2⟩ | ⟨j, av, m', h1, h2, h3, h4, h5, h6⟩
        · exact .inl ⟨h1, by simp [Instr.findNow, hsn, h2]⟩
        · exact .inr ⟨j + 1, av, m', by rw [h1]; congr 2; omega, by simp; omega, by simpa using h3, h4, h5, by simp only [Instr.findNow, hsn, h6]; congr 3; omega⟩
      · simp at h

theorem checkKey_run {kt : TypeId} {kd : TypeDesc} {k : AV} {u : Value} {L : Env} (hu : P.underlying kt = some kd) (hfit : (∃ n, kd = .int n) ∧ (∃ j a, k = .int j a) ∨ kd = .string ∧ (∃ s, k = .str s)) (hk : Rep w L β k u) (e : Bool) :
    (Instr.checkKey e 10000 kt u).run P w = .ok () w := by
  show (Instr.checkKey e (9999 + 1) kt u).run P w = .ok () w
  rw [Instr.checkKey]
  rcases hfit with ⟨⟨n, rfl⟩, j, a, rfl⟩ | ⟨rfl, s, rfl⟩ <;> cases hk <;> simp [underlying_run hu]

theorem lookupA_ok (hS : Sim L w β H) {t : TypeId} {ok : Bool} {x k av : AV} {u v : Value} (h : lookupA P H t ok x k = some av) (hx : Rep w L β x u) (hk : Rep w L β k v) :
    ∃ r, (Instr.lookup t u v ok).run P w = .ok r w ∧ Rep w L β av r := by
  unfold lookupA at h
  split at h
  · rename_i i
    split at h
    · rename_i kt et es ht hm
      split at h
      · rename_i hf
        obtain ⟨kd, hkd, hfit⟩ := keyFits_kind hf
        cases hx with
        | mapv _ b hb =>
        obtain ⟨ms, clock, hms, hE, hStamp⟩ := map_obj hS hm hb
        have hg := getObj_run (P := P) hms (by simp)
        have hck := fun e => checkKey_run (P := P) (w := w) hkd hfit hk e
        split at h
        · rename_i j a hfa
          rcases findA_now hfit hk hfa hE with ⟨h1, _⟩ | ⟨j', av', m, h1, h2, h3, h4, h5, h6⟩
          · simp at h1
          · simp only [Option.some.injEq, Prod.mk.injEq] at h1
            obtain ⟨_, rfl⟩ := h1
            cases ok with
            | true =>
              simp at h; subst h
              refine ⟨.tuple #[m.val, .bool true], by simp [Instr.lookup, underlying_run ht, hg, hck, Instr.findKey, underlying_run hkd, h6], ?_⟩
              have := Reps.cons h4 (Reps.cons (Rep.bool (w := w) (L := L) (β := β) true) Reps.nil)
              exact .tup _ _ this.1 this.2
            | false =>
              simp at h; subst h
              exact ⟨m.val, by simp [Instr.lookup, underlying_run ht, hg, hck, Instr.findKey, underlying_run hkd, h6], h4⟩
        · rename_i hfa
          rcases findA_now hfit hk hfa hE with ⟨_, h2⟩ | ⟨j', av', m, h1, _⟩
          · simp only [Option.map_eq_some_iff] at h
            obtain ⟨z, hz, h⟩ := h
            obtain ⟨zv, hzr, hzo⟩ := zeroOf_run (P := P) (w := w) hz
            cases ok with
            | true =>
              simp at h; subst h
              refine ⟨.tuple #[zv, .bool false], by simp [Instr.lookup, underlying_run ht, hg, hck, Instr.findKey, underlying_run hkd, h2, hzr], ?_⟩
              have := Reps.cons (ofV_rep (w := w) (L := L) (β := β) hzo) (Reps.cons (Rep.bool (w := w) (L := L) (β := β) false) Reps.nil)
              exact .tup _ _ this.1 this.2
            | false =>
              simp at h; subst h
              exact ⟨zv, by simp [Instr.lookup, underlying_run ht, hg, hck, Instr.findKey, underlying_run hkd, h2, hzr], ofV_rep hzo⟩
          · simp at h1
        · simp at h
      · simp at h
    · simp at h
  · simp at h

theorem setObj_run {b : Nat} {x : Obj} (h : w.heap[b]? = some x) (hne : ∀ c e fr, x ≠ .cells c e fr) (y : Obj) : (setObj b y).run P w = .ok () { w with heap := w.heap.setIfInBounds b y } := by
  simp only [setObj, Sem.run]
  rw [h]
  cases x <;> simp_all

/-- A map's entries are written anew. -/
theorem setMap_ok (hS : Sim L w β H) {i b : Nat} {es es' : List (AV × AV)} {ms ms' : Array MapEntry} {clock clock' : Nat} (hm : mapAt H i = some es) (hb : β[i]? = some b) (hms : w.heap[b]? = some (.map ms clock)) (hstp : MapKept.Stamped ms' clock') (hE : RepE w L β es' ms'.toList) :
    Sim L { w with heap := w.heap.setIfInBounds b (.map ms' clock') } β (H.set i (.map es')) ∧ Step w (LiveAt β H) { w with heap := w.heap.setIfInBounds b (.map ms' clock') } (LiveAt β (H.set i (.map es'))) := by
  have hlt : b < w.heap.size := hS.lt i b hb
  refine Sim.update hS (mapAt_eq hm) (by simp) (by simp) hb rfl rfl rfl (by simp) (fun k hk => by simp [Array.getElem?_setIfInBounds_ne (Ne.symm hk)]) (fun s hs => by simp [World.shape?, hms] at hs) (fun hst => ⟨.map ms' clock', by simp [hlt], ?_⟩)
  exact .map _ _ _ hstp ⟨hE.1, fun k e m h1 h2 => ⟨(hE.2 k e m h1 h2).1.mono hst (fun _ _ h => h), (hE.2 k e m h1 h2).2.mono hst (fun _ _ h => h)⟩⟩

theorem sameNow_bits {kd : TypeDesc} {u u' : Value} (h : Instr.sameNow kd u u' = some true) : Instr.sameBits 10000 u' u = true := by
  unfold Instr.sameNow at h
  split at h
  · split at h
    · rename_i hk; subst hk; simp at h; subst h; simp [Instr.sameBits]
    · simp at h
  · rename_i a b
    have hs := str_beq a.data.toList b.data.toList
    have hs' := str_beq b.data.toList a.data.toList
    simp only [Array.toArray_toList] at hs hs'
    have h' : (a == b) = true := by simpa using h
    have h2 : a.data.toList = b.data.toList := by rw [h'] at hs; simpa using hs.symm
    show (b == a) = true
    rw [hs', h2]; simp
  · simp at h; subst h; simp [Instr.sameBits]
  · simp at h

theorem sameNow_eq {kd : TypeDesc} {k : AV} {u u' : Value} {L : Env} (hfit : (∃ n, kd = .int n) ∧ (∃ j a, k = .int j a) ∨ kd = .string ∧ (∃ s, k = .str s)) (hk : Rep w L β k u) (h : Instr.sameNow kd u u' = some true) : u' = u := by
  rcases hfit with ⟨⟨n, rfl⟩, j, a, rfl⟩ | ⟨rfl, s, rfl⟩
  · cases hk
    unfold Instr.sameNow at h
    split at h <;> simp_all
  · cases hk
    cases u' with
    | string b =>
      simp only [Instr.sameNow, Option.some.injEq] at h
      have hs := str_beq s b.data.toList
      simp only [Array.toArray_toList] at hs
      have h2 : (s == b.data.toList) = true := by rw [← hs]; exact h
      have h3 : s = b.data.toList := by simpa using h2
      subst h3; simp
    | _ => simp [Instr.sameNow] at h
theorem findNow_none {kd : TypeDesc} {k : AV} {u : Value} {L : Env} (hfit : (∃ n, kd = .int n) ∧ (∃ j a, k = .int j a) ∨ kd = .string ∧ (∃ s, k = .str s)) (hk : Rep w L β k u) : ∀ {ms : List MapEntry} {n : Nat}, Instr.findNow kd u ms n = some none → ∀ x ∈ ms, x.key ≠ u
  | [], n, h, x, hx => by simp at hx
  | m :: ms, n, h, x, hx => by
    have hself : Instr.sameNow kd u u = some true := by
      rcases hfit with ⟨⟨n, rfl⟩, j, a, rfl⟩ | ⟨rfl, s, rfl⟩
      · cases hk; simp [Instr.sameNow]
      · cases hk; simp only [Instr.sameNow, str_beq]; simp
    simp only [Instr.findNow] at h
    rcases List.mem_cons.1 hx with rfl | hx
    · intro e
      rw [e, hself] at h
      simp at h
    · split at h
      · simp at h
      · exact findNow_none hfit hk h x hx
      · simp at h

theorem mapUpdateA_ok (hS : Sim L w β H) {t : TypeId} {x k y : AV} {u v z : Value} {H' : Heap} (h : mapUpdateA P H t x k y = some H') (hx : Rep w L β x u) (hk : Rep w L β k v) (hy : Rep w L β y z) :
    ∃ w', (Instr.mapUpdate t u v z).run P w = .ok () w' ∧ Sim L w' β H' ∧ Step w (LiveAt β H) w' (LiveAt β H') := by
  unfold mapUpdateA at h
  split at h
  · rename_i i
    split at h
    · rename_i kt et es ht hm
      split at h
      · rename_i hf
        obtain ⟨kd, hkd, hfit⟩ := keyFits_kind hf
        cases hx with
        | mapv _ b hb =>
        obtain ⟨ms, clock, hms, hE, hStamp⟩ := map_obj hS hm hb
        have hg := getObj_run (P := P) hms (by simp)
        have hck := fun e => checkKey_run (P := P) (w := w) hkd hfit hk e
        have hst := fun y => setObj_run (P := P) hms (by simp) y
        split at h
        · rename_i j a hfa
          simp at h; subst h
          rcases findA_now hfit hk hfa hE with ⟨h1, _⟩ | ⟨j', av', m, h1, h2, h3, h4, h5, h6⟩
          · simp at h1
          · simp only [Option.some.injEq, Prod.mk.injEq, Nat.zero_add] at h1
            obtain ⟨rfl, rfl⟩ := h1
            have h3' : ms[j]? = some m := by simpa using h3
            have hb' := sameNow_bits h5
            refine ⟨_, ?_, setMap_ok hS (clock' := clock) (ms' := ms.modify j fun e => { e with key := v, val := z }) hm hb hms (MapKept.stamped_modify hStamp j _ (fun _ _ => rfl) (fun e _ he => by rw [h3'] at he; cases he; exact (sameNow_eq hfit hk h5).symm)) ?_⟩
            · simp [Instr.mapUpdate, underlying_run ht, hg, hck, Instr.findKey, underlying_run hkd, h6, h3', Instr.keyThatStays, hb', hst]
            · refine ⟨by simpa using hE.1, fun q e m' h7 h8 => ?_⟩
              have h8' : (ms.modify j fun e => { e with key := v, val := z })[q]? = some m' := by rw [Array.getElem?_toList] at h8; exact h8
              rw [Array.getElem?_modify] at h8'
              by_cases hq : j = q
              · subst hq
                rw [if_pos rfl, h3'] at h8'
                simp at h8'; subst h8'
                rw [List.getElem?_set_self h2] at h7
                simp at h7; subst h7
                exact ⟨hk, hy⟩
              · rw [if_neg hq] at h8'
                rw [List.getElem?_set_ne hq] at h7
                exact hE.2 q e m' h7 (by rw [Array.getElem?_toList]; exact h8')
        · rename_i hfa
          simp at h; subst h
          rcases findA_now hfit hk hfa hE with ⟨_, h2⟩ | ⟨j', av', m, h1, _⟩
          · refine ⟨_, ?_, setMap_ok hS (clock' := clock + 1) (ms' := ms.push { key := v, val := z, born := clock }) hm hb hms (MapKept.stamped_push hStamp (findNow_none hfit hk h2)) ?_⟩
            · simp [Instr.mapUpdate, underlying_run ht, hg, hck, Instr.findKey, underlying_run hkd, h2, hst]
            · have hl : es.length = ms.size := by simpa using hE.1
              refine ⟨by simp [hl], fun q e m' h7 h8 => ?_⟩
              simp only [Array.toList_push] at h8
              rcases Nat.lt_or_ge q es.length with hq | hq
              · rw [List.getElem?_append_left hq] at h7
                rw [List.getElem?_append_left (by simp; omega)] at h8
                exact hE.2 q e m' h7 h8
              · rw [List.getElem?_append_right hq] at h7
                rw [List.getElem?_append_right (by simp; omega)] at h8
                have hq0 : q - es.length = 0 := by
                  rcases Nat.eq_zero_or_pos (q - es.length) with h | h
                  · exact h
                  · have : ([(k, y)] : List (AV × AV))[q - es.length]? = none := by simp; omega
                    rw [this] at h7; cases h7
                rw [hq0] at h7
                rw [show q - ms.toList.length = 0 by simp; omega] at h8
                simp at h7 h8; subst h7; subst h8
                exact ⟨hk, hy⟩
          · simp at h1
        · simp at h
      · simp at h
    · simp at h
  · simp at h

theorem deleteA_ok (hS : Sim L w β H) {ts : Array TypeId} {t ty : TypeId} (ht0 : ts[0]? = some t) {x k : AV} {u v : Value} {H' : Heap} (h : deleteA P H t x k = some H') (hx : Rep w L β x u) (hk : Rep w L β k v) :
    ∃ w', (Builtin.delete_ ts ty #[u, v]).run P w = .ok (.tuple #[]) w' ∧ Sim L w' β H' ∧ Step w (LiveAt β H) w' (LiveAt β H') := by
  unfold deleteA at h
  split at h
  · rename_i i
    split at h
    · rename_i kt et es ht hm
      split at h
      · rename_i hf
        obtain ⟨kd, hkd, hfit⟩ := keyFits_kind hf
        cases hx with
        | mapv _ b hb =>
        obtain ⟨ms, clock, hms, hE, hStamp⟩ := map_obj hS hm hb
        have hg := getObj_run (P := P) hms (by simp)
        have hck := fun e => checkKey_run (P := P) (w := w) hkd hfit hk e
        have hst := fun y => setObj_run (P := P) hms (by simp) y
        split at h
        · rename_i j a hfa
          simp at h; subst h
          rcases findA_now hfit hk hfa hE with ⟨h1, _⟩ | ⟨j', av', m, h1, h2, h3, h4, h5, h6⟩
          · simp at h1
          · simp only [Option.some.injEq, Prod.mk.injEq, Nat.zero_add] at h1
            obtain ⟨rfl, rfl⟩ := h1
            refine ⟨_, ?_, setMap_ok hS (clock' := clock) (ms' := ms.eraseIdxIfInBounds j) hm hb hms (MapKept.stamped_erase hStamp j) ?_⟩
            · simp [Builtin.delete_, ht0, underlying_run ht, hg, hck, Instr.findKey, underlying_run hkd, h6, hst]
            · have hl : es.length = ms.size := by simpa using hE.1
              have e : (ms.eraseIdxIfInBounds j).toList = ms.toList.eraseIdx j := by simp
              rw [e]
              refine ⟨by simp [List.length_eraseIdx, hl], fun q e m' h7 h8 => ?_⟩
              rw [List.getElem?_eraseIdx] at h7 h8
              split at h7
              · rw [if_pos ‹_›] at h8; exact hE.2 _ e m' h7 h8
              · rw [if_neg ‹_›] at h8; exact hE.2 _ e m' h7 h8
        · rename_i hfa
          simp at h; subst h
          rcases findA_now hfit hk hfa hE with ⟨_, h2⟩ | ⟨j', av', m, h1, _⟩
          · have he : ({ w with heap := w.heap.setIfInBounds b (.map ms clock) } : World) = w := by
              have : w.heap.setIfInBounds b (.map ms clock) = w.heap := by
                obtain ⟨hlt, he⟩ := Array.getElem?_eq_some_iff.1 hms
                apply Array.ext_getElem?
                intro q
                by_cases hq : b = q
                · subst hq; simp [he, hlt]
                · rw [Array.getElem?_setIfInBounds_ne hq]
              simp [this]
            refine ⟨w, ?_, hS, Step.refl _ _⟩
            simp [Builtin.delete_, ht0, underlying_run ht, hg, hck, Instr.findKey, underlying_run hkd, h2, hst, he]
          · simp at h1
        · simp at h
      · simp at h
    · simp at h
  · simp at h

theorem lenA_ok (hS : Sim L w β H) {ts : Array TypeId} {t ty : TypeId} (ht0 : ts[0]? = some t) {x av : AV} {u : Value} (h : lenA P t H x = some av) (hx : Rep w L β x u) :
    ∃ r, (Builtin.len_ ts ty #[u]).run P w = .ok r w ∧ Rep w L β av r := by
  unfold lenA at h
  split at h
  · split at h
    · rename_i ht
      simp at h; subst h; cases hx
      exact ⟨_, by simp [Builtin.len_, ht0, underlying_run ht, goInt, str_size], .int _ _⟩
    · simp at h
  · split at h
    · rename_i ht
      simp at h; subst h; cases hx
      exact ⟨_, by simp [Builtin.len_, ht0, underlying_run ht, goInt], .int _ _⟩
    · simp at h
  · split at h
    · rename_i ht
      simp at h; subst h; cases hx
      exact ⟨_, by simp [Builtin.len_, ht0, underlying_run ht, goInt], .int _ _⟩
    · simp at h
  · split at h
    · rename_i ht
      simp at h; subst h; cases hx
      exact ⟨_, by simp [Builtin.len_, ht0, underlying_run ht, goInt], .int _ _⟩
    · simp at h
  · split at h
    · rename_i ht
      simp at h; subst h
      cases hx with
      | im _ _ a n c uu hn =>
      subst hn
      exact ⟨_, by simp [Builtin.len_, ht0, underlying_run ht, goInt], .int _ _⟩
    · simp at h
  · split at h
    · rename_i kt et es ht hm
      simp at h; subst h
      cases hx with
      | mapv _ b hb =>
      obtain ⟨ms, clock, hms, hE, hStamp⟩ := map_obj hS hm hb
      have hg := getObj_run (P := P) hms (by simp)
      have hl : es.length = ms.size := by simpa using hE.1
      exact ⟨.int .i64 ms.size, by simp [Builtin.len_, ht0, underlying_run ht, hg, goInt], by rw [hl]; exact .int _ _⟩
    · simp at h
  · simp at h

theorem opK_lenS {x r : AV} (h : opK .lenS [x] = some r) : ∃ l, x = .str l ∧ r = .int .i64 l.length := by
  unfold opK at h
  split at h
  all_goals first
    | (rename_i l e1 e2; simp at e2; subst e2; simp at h; exact ⟨l, rfl, h.symm⟩)
    | simp_all
theorem lenK_ok {L : Env} {ts : Array TypeId} {t ty e : TypeId} (ht0 : ts[0]? = some t) (ht : P.underlying t = some (.slice e)) {x av : AV} {u : Value} (h : lenK x = some av) (hx : Rep w L β x u) :
    ∃ r, (Builtin.len_ ts ty #[u]).run P w = .ok r w ∧ Rep w L β av r := by
  unfold lenK at h
  split at h
  · simp at h; subst h; cases hx
    exact ⟨_, by simp [Builtin.len_, ht0, underlying_run ht, goInt], .int _ _⟩
  · simp at h; subst h; cases hx
    exact ⟨_, by simp [Builtin.len_, ht0, underlying_run ht, goInt], .int _ _⟩
  · simp at h; subst h; cases hx
    exact ⟨_, by simp [Builtin.len_, ht0, underlying_run ht, goInt], .int _ _⟩
  · simp at h; subst h
    cases hx with
    | im _ _ a n c uu hn =>
    subst hn
    exact ⟨_, by simp [Builtin.len_, ht0, underlying_run ht, goInt], .int _ _⟩
  · simp at h

theorem lenT_ok {T : Tab} (hT : OpsOK L T) (hS : Sim L w β H) {ts : Array TypeId} {t ty : TypeId} (ht0 : ts[0]? = some t) {x av : AV} {u : Value} (h : lenT P T t H x = some av) (hx : Rep w L β x u) :
    ∃ r, (Builtin.len_ ts ty #[u]).run P w = .ok r w ∧ Rep w L β av r := by
  unfold lenT at h
  split at h
  · rename_i v hv
    simp at h; subst h
    exact lenA_ok hS ht0 hv hx
  · split at h
    · rename_i ht
      obtain ⟨x', r', h2, h3, h4⟩ := findT_ok1 hT h hx
      obtain ⟨l, rfl, rfl⟩ := opK_lenS h2
      cases h3
      exact ⟨_, by simp [Builtin.len_, ht0, underlying_run ht, goInt, str_size], h4 _ (.int _ _)⟩
    · rename_i e ht
      obtain ⟨x', r', h2, h3, h4⟩ := findT_ok1 hT h hx
      have hl : lenK x' = some r' := by
        unfold opK at h2
        split at h2 <;> simp_all
      obtain ⟨r, h5, h6⟩ := lenK_ok (P := P) (ty := ty) ht0 ht hl h3
      exact ⟨r, h5, h4 _ h6⟩
    · simp at h

end Go.Proofs.BoatV
