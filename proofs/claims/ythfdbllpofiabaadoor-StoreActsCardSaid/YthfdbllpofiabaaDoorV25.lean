/- The library: a map's copy; a map's keys, sorted. -/
import Derived.Test.YthfdbllpofiabaaDoorV24
import Derived.Sort.KeysCollected
namespace Go.Proofs.BoatV
open Go Go.Proofs Go.RowKit
open Go.WideElems (Fit rd rg pl)
set_option linter.unusedVariables false
set_option linter.unusedSimpArgs false
variable {P : Program}

/-- A new block that a call has laid. -/
theorem Sim.add {L : Env} {w : World} {β : List Nat} {H : Heap} (hS : Sim L w β H) {o : AO} (ho : o ≠ .dead) {g : Nat} {x : Obj} (hg : g < w.heap.size) (hx : w.heap[g]? = some x) (hL : L.on g) (hn : ∀ (i b : Nat), β[i]? = some b → b ≠ g) (hr : RepO w L (β ++ [g]) o x) :
    Sim L w (β ++ [g]) (H ++ [o]) := by
  have hlen := hS.len
  have back : ∀ (i b : Nat) (p : AO), (H ++ [o])[i]? = some p → (β ++ [g])[i]? = some b → (H[i]? = some p ∧ β[i]? = some b) ∨ (i = H.length ∧ p = o ∧ b = g) := by
    intro i b p h1 h2
    rcases Nat.lt_trichotomy i H.length with hi | hi | hi
    · rw [List.getElem?_append_left hi] at h1
      rw [List.getElem?_append_left (by omega)] at h2
      exact .inl ⟨h1, h2⟩
    · subst hi
      rw [← hlen] at h2
      simp at h1 h2
      exact .inr ⟨rfl, h1.symm, h2.symm⟩
    · exfalso
      have : (H ++ [o])[i]? = none := by simp; omega
      rw [this] at h1; cases h1
  refine ⟨by simp [hlen], fun i b hb => ?_, fun i j p q b h1 h2 h3 h4 h5 h6 => ?_, fun i p b h1 h2 h3 => ?_, fun b hb => ?_, hS.big⟩
  · rcases Nat.lt_or_ge i β.length with hi | hi
    · rw [List.getElem?_append_left hi] at hb; exact hS.lt i b hb
    · rw [List.getElem?_append_right hi] at hb
      have : b = g := by
        rcases Nat.eq_zero_or_pos (i - β.length) with h | h
        · rw [h] at hb; simpa using hb.symm
        · have : ([g] : List Nat)[i - β.length]? = none := by simp; omega
          rw [this] at hb; cases hb
      subst this; exact hg
  · rcases back i b p h1 h5 with ⟨a1, a2⟩ | ⟨a1, a2, a3⟩ <;> rcases back j b q h3 h6 with ⟨b1, b2⟩ | ⟨b1, b2, b3⟩
    · exact hS.inj i j p q b a1 h2 b1 h4 a2 b2
    · exact absurd b3 (hn i b a2)
    · exact absurd a3 (hn j b b2)
    · rw [a1, b1]
  · rcases back i b p h1 h3 with ⟨a1, a2⟩ | ⟨a1, a2, a3⟩
    · obtain ⟨y, hy, hry⟩ := hS.obj i p b a1 h2 a2
      exact ⟨y, hy, hry.mono (Step.refl _ _) (fun _ _ h => get_append_left h)⟩
    · subst a2; subst a3; exact ⟨x, hx, hr⟩
  · rcases (live_append hlen ho b).1 hb with h | h
    · exact hS.dis b h
    · rw [h]; exact hL

/-! ### maps.Clone -/
def cloneSpec : Spec := fun args H => match args, H with
  | [.mapv 0], [.map es] => some (.mapv 1, [.map es, .map es])
  | _, _ => none
theorem clone_ok {f : FuncId} (he : Enters P f) (h : ∀ (b : Nat) (es : Array MapEntry) (clock : Nat) (w : World), w.heap[b]? = some (.map es clock) → Calls P f #[.map (some b)] w fun e w' => e = .returned (.map (some w.heap.size)) ∧ w' = w.alloc (.map es clock)) : SpecOK P f cloneSpec := by
  intro args H r H' hs L w β vs hS hR
  unfold cloneSpec at hs
  split at hs
  · rename_i es
    simp only [Option.some.injEq, Prod.mk.injEq] at hs
    obtain ⟨rfl, rfl⟩ := hs
    match vs, hR with
    | [v], hR =>
      have hm := hR.head
      cases hm with
      | mapv _ b hb =>
      obtain ⟨ms, clock, hms, hE, hst⟩ := map_obj (es := es) hS rfl hb
      refine ⟨he _ w, (h b ms clock w hms).mono fun e w' => ?_⟩
      rintro ⟨rfl, rfl⟩
      obtain ⟨s1, s2⟩ := Sim.new hS (o := .map es) (w' := w.alloc (.map ms clock)) (x := .map ms clock) (by simp) rfl rfl rfl rfl (fun hs => .map _ _ _ hst ⟨hE.1, fun k e m h1 h2 => ⟨(hE.2 k e m h1 h2).1.mono hs (fun _ _ h => get_append_left h), (hE.2 k e m h1 h2).2.mono hs (fun _ _ h => get_append_left h)⟩⟩)
      exact ⟨_, [w.heap.size], L, rfl, s1, .mapv 1 _ (new_at hS _), s2, Cut.refl _ _ _⟩
    | [], hR => have := hR.1; simp at this
    | _ :: _ :: _, hR => have := hR.1; simp at this
  · simp at hs

/-! ### Sorting, as the kernel reckons it -/
def ltS : List UInt8 → List UInt8 → Bool
  | [], [] => false
  | [], _ :: _ => true
  | _ :: _, [] => false
  | a :: r, b :: s => match Nat.blt a.toNat b.toNat with
    | true => true
    | false => match Nat.beq a.toNat b.toNat with
      | true => ltS r s
      | false => false
theorem ltS_iff : ∀ {x y : List UInt8}, ltS x y = true ↔ x < y
  | [], [] => by simp [ltS]
  | [], b :: s => by simp [ltS]
  | a :: r, [] => by simp [ltS]
  | a :: r, b :: s => by
    have e1 : (a < b) ↔ a.toNat < b.toNat := UInt8.lt_iff_toNat_lt
    have e2 : (a = b) ↔ a.toNat = b.toNat := UInt8.toNat_inj.symm
    simp only [ltS]
    rw [List.cons_lt_cons_iff, e1, e2]
    split
    · rename_i h
      have : a.toNat < b.toNat := by simpa [Nat.blt, Nat.lt_iff_add_one_le] using h
      simp [this]
    · rename_i h
      have h' : ¬ a.toNat < b.toNat := fun hh => by
        have h3 : Nat.blt a.toNat b.toNat = true := by simp [Nat.blt]; omega
        rw [h3] at h; cases h
      split
      · rename_i h2
        have h2' : a.toNat = b.toNat := Nat.eq_of_beq_eq_true h2
        rw [ltS_iff]
        simp [h', h2']
      · rename_i h2
        have h2' : ¬ a.toNat = b.toNat := fun e => by rw [e] at h2; simp at h2
        simp [h', h2']
def insS (x : List UInt8) : List (List UInt8) → List (List UInt8)
  | [] => [x]
  | y :: r => match ltS y x with
    | true => y :: insS x r
    | false => x :: y :: r
def isort : List (List UInt8) → List (List UInt8)
  | [] => []
  | x :: r => insS x (isort r)
theorem insS_perm (x : List UInt8) : ∀ l : List (List UInt8), (insS x l).Perm (x :: l)
  | [] => .refl _
  | y :: r => by
    simp only [insS]
    split
    · exact ((insS_perm x r).cons y).trans (.swap x y r)
    · exact .refl _
theorem isort_perm : ∀ l : List (List UInt8), (isort l).Perm l
  | [] => .refl _
  | x :: r => (insS_perm x _).trans ((isort_perm r).cons x)
theorem insS_sorted (x : List UInt8) : ∀ {l : List (List UInt8)}, l.Pairwise (· ≤ ·) → (insS x l).Pairwise (· ≤ ·)
  | [], _ => by simp [insS]
  | y :: r, h => by
    simp only [insS]
    rw [List.pairwise_cons] at h
    split
    · rename_i hl
      have hyx : y < x := ltS_iff.1 hl
      rw [List.pairwise_cons]
      refine ⟨fun z hz => ?_, insS_sorted x h.2⟩
      rcases List.mem_cons.1 ((insS_perm x r).mem_iff.1 hz) with rfl | hz
      · exact List.le_of_lt hyx
      · exact h.1 z hz
    · rename_i hl
      have hxy : x ≤ y := by
        have : ¬ y < x := fun hh => by rw [ltS_iff.2 hh] at hl; cases hl
        exact List.not_lt.1 this
      rw [List.pairwise_cons, List.pairwise_cons]
      refine ⟨fun z hz => ?_, h⟩
      rcases List.mem_cons.1 hz with rfl | hz
      · exact hxy
      · exact List.le_trans hxy (h.1 z hz)
theorem isort_sorted : ∀ l : List (List UInt8), (isort l).Pairwise (· ≤ ·)
  | [] => .nil
  | x :: r => insS_sorted x (isort_sorted r)
theorem sorted_unique {l l' : List (List UInt8)} (h : l.Perm l') (hs : l.Pairwise (· ≤ ·)) (hs' : l'.Pairwise (· ≤ ·)) : l = l' :=
  List.Perm.eq_of_pairwise (le := (· ≤ ·)) (fun a b _ _ h1 h2 => List.le_antisymm h1 h2) hs hs' h
theorem mergeSort_isort {l l' : List (List UInt8)} (h : l.Perm l') : l.mergeSort leB = isort l' := by
  have tr : ∀ a b c : List UInt8, leB a b = true → leB b c = true → leB a c = true := fun a b c h1 h2 => by simp only [leB, decide_eq_true_eq] at *; exact List.le_trans h1 h2
  have to : ∀ a b : List UInt8, (leB a b || leB b a) = true := fun a b => by simp only [leB, Bool.or_eq_true, decide_eq_true_eq]; exact List.le_total a b
  refine sorted_unique (((List.mergeSort_perm l leB).trans h).trans (isort_perm l').symm) ?_ (isort_sorted l')
  exact (List.pairwise_mergeSort tr to l).imp (fun {a b} h => by simpa [leB] using h)

/-! ### slices.Sorted(maps.Keys(m)) -/
def strKeysA : List (AV × AV) → Option (List (List UInt8))
  | [] => some []
  | (.str k, _) :: r => (strKeysA r).map (k :: ·)
  | _ :: _ => none
def shortK : List (List UInt8) → Bool
  | [] => true
  | k :: r => Nat.ble k.length 9223372036854775807 && shortK r
def sortedSpec (g : FuncId) : Spec := fun args H => match args, H with
  | [.fn g' [.ptr 0 0]], [.row [.mapv 1], .map es] => match Nat.beq g g', strKeysA es with
    | true, some ks => match shortK ks && Nat.ble ks.length 1099511627776 with
      | true => match isort ks with
        | [] => some (.snil, H)
        | s => some (.sl 2 0 ks.length 1 none, H ++ [.row (s.map .str)])
      | false => none
    | _, _ => none
  | _, _ => none

theorem strKeysA_get {L : Env} {w : World} {β : List Nat} : ∀ {es : List (AV × AV)} {ks : List (List UInt8)} {ms : List MapEntry}, strKeysA es = some ks → RepE w L β es ms → ms.map (·.key) = ks.map encStr
  | [], ks, ms, h, hE => by
    simp [strKeysA] at h; subst h
    have : ms = [] := List.length_eq_zero_iff.1 (by have := hE.1; simpa using this.symm)
    subst this; rfl
  | (.str k, v) :: r, ks, [], h, hE => by have := hE.1; simp at this
  | (.str k, v) :: r, ks, m :: ms, h, hE => by
    simp only [strKeysA, Option.map_eq_some_iff] at h
    obtain ⟨l, hl, rfl⟩ := h
    have h0 := (hE.2 0 _ m rfl rfl).1
    have hE' : RepE w L β r ms := ⟨by have := hE.1; simpa using this, fun k e m h1 h2 => hE.2 (k + 1) e m (by simpa using h1) (by simpa using h2)⟩
    have : m.key = encStr k := by
      generalize m.key = u at h0
      cases h0; rfl
    simp [this, strKeysA_get hl hE']
  | (.int _ _, v) :: r, ks, ms, h, hE => by simp [strKeysA] at h
  | (.bool _, v) :: r, ks, ms, h, hE => by simp [strKeysA] at h
  | (.undef, v) :: r, ks, ms, h, hE => by simp [strKeysA] at h
  | (.nilp, v) :: r, ks, ms, h, hE => by simp [strKeysA] at h
  | (.ptr _ _, v) :: r, ks, ms, h, hE => by simp [strKeysA] at h
  | (.ip _, v) :: r, ks, ms, h, hE => by simp [strKeysA] at h
  | (.snil, v) :: r, ks, ms, h, hE => by simp [strKeysA] at h
  | (.e0, v) :: r, ks, ms, h, hE => by simp [strKeysA] at h
  | (.sl _ _ _ _ _, v) :: r, ks, ms, h, hE => by simp [strKeysA] at h
  | (.im _ _, v) :: r, ks, ms, h, hE => by simp [strKeysA] at h
  | (.fn _ _, v) :: r, ks, ms, h, hE => by simp [strKeysA] at h
  | (.nilf, v) :: r, ks, ms, h, hE => by simp [strKeysA] at h
  | (.mapv _, v) :: r, ks, ms, h, hE => by simp [strKeysA] at h
  | (.chv _, v) :: r, ks, ms, h, hE => by simp [strKeysA] at h
  | (.agg _, v) :: r, ks, ms, h, hE => by simp [strKeysA] at h
  | (.tup _, v) :: r, ks, ms, h, hE => by simp [strKeysA] at h
  | (.hid _ _ _, v) :: r, ks, ms, h, hE => by simp [strKeysA] at h
  | (.top, v) :: r, ks, ms, h, hE => by simp [strKeysA] at h
theorem shortK_mem : ∀ {l : List (List UInt8)}, shortK l = true → ∀ k ∈ l, k.length ≤ 9223372036854775807
  | [], _, k, hk => by simp at hk
  | x :: r, h, k, hk => by
    simp only [shortK, Bool.and_eq_true, Nat.ble_eq] at h
    rcases List.mem_cons.1 hk with rfl | hk
    · exact h.1
    · exact shortK_mem h.2 k hk

/-- What the entries' values read as is of no matter. -/
def anyR (_ : Value) : Option (DataW Unit × List MemPlace) := some (.lit (.bool true), [])
theorem sorted_ok {f g : FuncId} {kt : TypeId} (hk : P.underlying kt = some .string) (he : Enters P f)
    (h : ∀ (Bm b nn : Nat) (D0 : DataW Unit) (R : Value → Option (DataW Unit × List MemPlace)) (w : World), Bm < w.heap.size → w.cell? ⟨Bm, 0, none⟩ = some (.map (some b)) → w.ownsMap P kt R b nn D0 → Maps.size D0 ≤ maxLen → Maps.size D0 * 16 ≤ 140737488355328 →
      Calls P f #[.func (.func g) #[] #[.pointer (some ⟨Bm, 0, none⟩)]] w fun e w' => ∃ (v : Value) (ss : List (List UInt8)), e = .returned v ∧ ss.Perm (strKeys D0) ∧
        w'.ownsRow w.heap.size kt 1 v ss.length ((ss.mergeSort (fun x y => decide (x ≤ y))).map encStr) ∧ (v = .slice none 0 0 ↔ ss = []) ∧ Below w.heap.size w w') : SpecOK P f (sortedSpec g) := by
  intro args H r H' hs L w β vs hS hR
  unfold sortedSpec at hs
  split at hs
  · rename_i g' es
    split at hs
    · rename_i ks hg hks
      have hgg := Nat.eq_of_beq_eq_true hg
      subst hgg
      split at hs
      · rename_i hshort
        simp only [Bool.and_eq_true, Nat.ble_eq] at hshort
        match vs, hR with
        | [v], hR =>
          have hf := hR.head
          cases hf with
          | fn _ _ caps hl hc =>
          match caps, hl, hc with
          | [cv], hl, hc =>
            have hcv := hc 0 (.ptr 0 0) cv rfl rfl
            cases hcv with
            | ptr _ _ B hB =>
            obtain ⟨u, hu, hru⟩ := row_cells hS (show rowAt _ 0 = some [.mapv 1] from rfl) hB 0 (.mapv 1) rfl
            cases hru with
            | mapv _ b hb =>
            obtain ⟨ms, clock, hms, hE, hst⟩ := map_obj (i := 1) (es := es) hS rfl hb
            have hkeys := strKeysA_get hks hE
            have hlen : ms.size = ks.length := by have := congrArg List.length hkeys; simpa using this
            have hkm : ∀ x ∈ ms.toList, ∃ k ∈ ks, x.key = encStr k := fun x hx => by
              have : x.key ∈ ks.map encStr := by rw [← hkeys]; exact List.mem_map_of_mem hx
              obtain ⟨k, h1, h2⟩ := List.mem_map.1 this
              exact ⟨k, h1, h2.symm⟩
            have hrd : ∀ x ∈ ms.toList, ∀ k, x.key = encStr k → k ∈ ks → rd P kt anyR x = some (.string k, .lit (.bool true)) := fun x hx k hxk hkk => by
              have hz : k.toArray.size ≤ maxLen := by
                have := shortK_mem hshort.1 k hkk
                simp [maxLen]; omega
              have h0 : keyOf P kt (encStr k) = some (.string k) := by
                have := WideMaps.keyOf_string_mk hk (s := ⟨k.toArray⟩) hz
                simpa [encStr] using this
              simp [rd, hxk, h0, anyR]
            have hfit : Fit P kt anyR ms clock := ⟨by rw [hlen]; simp [maxLen]; omega, hst, fun x hx => by
              obtain ⟨k, h1, h2⟩ := hkm x hx
              exact ⟨_, hrd x hx k h2 h1⟩⟩
            have hmap : ms.toList.map (rg P kt anyR) = ks.map fun k => (Lit.string k, DataW.lit (.bool true)) := by
              apply List.ext_getElem?
              intro i
              simp only [List.getElem?_map]
              have hi : (ms.toList[i]?).map (·.key) = (ks[i]?).map encStr := by
                have := congrArg (fun l => l[i]?) hkeys
                simpa using this
              cases hm : ms.toList[i]? with
              | none =>
                rw [hm] at hi
                cases hq : ks[i]? with
                | none => rfl
                | some k => rw [hq] at hi; simp at hi
              | some x =>
                rw [hm] at hi
                cases hq : ks[i]? with
                | none => rw [hq] at hi; simp at hi
                | some k =>
                  rw [hq] at hi
                  simp only [Option.map_some, Option.some.injEq] at hi ⊢
                  have := hrd x (List.mem_of_getElem? hm) k hi (List.mem_of_getElem? hq)
                  simp [rg, this]
            have hown : w.ownsMap P kt anyR b ms.size (.map ((ms.toList.map (rg P kt anyR)).foldr DataW.insert [])) := ⟨ms, clock, hms, hfit, Nat.le_refl _, rfl⟩
            have hperm : (strKeys (DataW.map ((ms.toList.map (rg P kt anyR)).foldr DataW.insert []))).Perm ks := by
              show (((ms.toList.map (rg P kt anyR)).foldr DataW.insert []).map fun p => strOf p.1).Perm ks
              refine ((WideShapes.sorted_perm _).map _).trans ?_
              rw [hmap, List.map_map]
              have : ((fun p : Lit × DataW Unit => strOf p.1) ∘ fun k => (Lit.string k, DataW.lit (.bool true))) = id := rfl
              rw [this, List.map_id]
            have hsize : Maps.size (DataW.map ((ms.toList.map (rg P kt anyR)).foldr DataW.insert [])) = ks.length := by
              rw [← hperm.length_eq]
              simp [Maps.size, strKeys]
            have hBlt := hS.lt 0 B hB
            refine ⟨he _ w, ((h B b ms.size _ anyR w hBlt hu hown (by rw [hsize]; simp [maxLen]; omega) (by rw [hsize]; omega))).mono fun e w' => ?_⟩
            rintro ⟨v, ss, rfl, hp, hrow, hnil, hbel⟩
            obtain ⟨s1, s2⟩ := sim_of_below hS hbel
            have hss : ss.Perm ks := hp.trans hperm
            have hso : ss.mergeSort (fun x y => decide (x ≤ y)) = isort ks := mergeSort_isort hss
            rw [hso] at hrow
            split at hs
            · rename_i hi
              simp only [Option.some.injEq, Prod.mk.injEq] at hs
              obtain ⟨rfl, rfl⟩ := hs
              have hks0 : ks = [] := by have := (isort_perm ks).symm; rw [hi] at this; simpa using this
              have hss0 : ss = [] := by rw [hks0] at hss; simpa using hss
              have hv := hnil.2 hss0
              subst hv
              exact ⟨_, [], L, rfl, by simpa using s1, .snil, by simpa using s2, Cut.refl _ _ _⟩
            · rename_i s hne
              simp only [Option.some.injEq, Prod.mk.injEq] at hs
              obtain ⟨rfl, rfl⟩ := hs
              obtain ⟨hxl, hrow⟩ := hrow
              rcases hrow with ⟨hv, h0⟩ | ⟨q, cap, cur, hv, hq, hheap, hncap, hcap, hcur, htake⟩
              · exfalso
                have hss0 : ss = [] := List.length_eq_zero_iff.1 h0
                rw [hss0] at hss
                have hks0 : ks = [] := by simpa using hss.symm
                rw [hks0] at hne
                exact hne rfl
              · have hqlt : q < w'.heap.size := by
                  have := Array.getElem?_eq_some_iff.1 hheap
                  exact this.1
                have hne' : ∀ (i b : Nat), β[i]? = some b → b ≠ q := fun i b hb e => by
                  have := hS.lt i b hb
                  omega
                have hklen : ss.length = ks.length := hss.length_eq
                have hrO : RepO w' L (β ++ [q]) (.row ((isort ks).map .str)) (.cells cur kt (0, 0)) := by
                  have hlen2 : (isort ks).length = ks.length := (isort_perm ks).length_eq
                  refine .row _ _ _ _ (by simp [hlen2, hcur]; omega) (fun k _ => by simp) (fun k av hk => ?_)
                  simp only [List.getElem?_map, Option.map_eq_some_iff] at hk
                  obtain ⟨s, hs1, rfl⟩ := hk
                  have h2 : (cur.toList.take (ss.length * 1))[k]? = some (encStr s) := by
                    rw [htake]; simp [hs1]
                  rw [List.getElem?_take] at h2
                  split at h2
                  · rw [Array.getElem?_toList] at h2
                    exact ⟨_, h2, by simpa [encStr] using Rep.str (w := w') (L := L) (β := β ++ [q]) s⟩
                  · cases h2
                have hLq : L.on q := hS.big q hq
                have s3 := Sim.add s1 (by simp) hqlt hheap hLq hne' hrO
                refine ⟨v, [q], L, rfl, s3, ?_, ?_, Cut.refl _ _ _⟩
                · subst hv
                  rw [← hklen]
                  have hq2 : (β ++ [q])[2]? = some q := by
                    have := new_at hS q
                    exact this
                  refine .sl 2 0 ss.length 1 none q cap kt (cap * 1) hq2 hncap (fun k h => by cases h) (by simp [World.shape?, hheap, hcur]) (by omega) (by omega) (fun _ => by omega)
                · exact step_of_below hbel _ _ (fun b hb hl => by
                    rcases (live_append hS.len (by simp) b).1 hl with h | h
                    · exact h
                    · omega)
          | [], hl, _ => simp at hl
          | _ :: _ :: _, hl, _ => simp at hl
        | [], hR => have := hR.1; simp at this
        | _ :: _ :: _, hR => have := hR.1; simp at this
      · simp at hs
    · simp at hs
  · simp at hs
end Go.Proofs.BoatV
