/- StoreKeys: the plain law: it answers true. Printed by gen17.py. -/
import Derived.Test.YthfdbllpofiabaaDoorS16
namespace Go.Proofs.BoatV
open Go
set_option linter.unusedVariables false
def bytesR (l : Str) : AO := .row (l.map fun b => .int .u8 b.toNat)
theorem clBy (l : Str) : ClO (bytesR l) := ClO.row (closedL_map (fun _ => rfl) l)
theorem bytesOf_map : ∀ l : Str, bytesOfCells (l.map fun b => .int .u8 b.toNat) = some l
  | [] => rfl
  | b :: r => by
    have ih := bytesOf_map r
    have h : b.toNat < 256 := b.toNat_lt
    have h0 : (0 : Int) ≤ (b.toNat : Int) ∧ (b.toNat : Int) < 256 := by omega
    simp only [List.map_cons, bytesOfCells, if_pos h0, ih, Option.map_some, Int.toNat_natCast]
    simp
theorem op_toS (l : Str) (n : Nat) (cap : Option Nat) (h : l.length = n) : opP .toS [.sl 0 0 n 1 cap] [bytesR l] = some (.str l) := by
  have h1 : n ≤ ((l.map fun b => AV.int .u8 b.toNat).drop 0).length := by simp [h]
  have h2 : ((l.map fun b => AV.int .u8 b.toNat).drop 0).take n = l.map fun b => AV.int .u8 b.toNat := by
    rw [List.drop_zero]; exact List.take_of_length_le (by simp [h])
  simp only [opP, HKey.quiet, if_true, opH, bytesR, rowAt, List.getElem?_cons_zero, h1, and_self, h2, bytesOf_map, Option.map_some]
theorem repeatZ_zero (n : Nat) : repeatZ [.int .u8 0] (n * 1) = (List.replicate n (0 : UInt8)).map fun b => AV.int .u8 b.toNat := by
  unfold repeatZ
  apply List.ext_getElem?
  intro i
  simp only [List.getElem?_map, List.length_singleton, Nat.mod_one, Nat.mul_one]
  rcases Nat.lt_or_ge i n with h | h
  · rw [List.getElem?_range h, List.getElem?_replicate, if_pos h]; rfl
  · rw [List.getElem?_eq_none (by simpa using h), List.getElem?_replicate, if_neg (by omega)]; rfl
theorem op_mk (n : Nat) (h : n ≤ 1099511627776) : opH (.mk 1 [.int .u8 0]) [.int .i64 (n : Int), .int .i64 (n : Int)] [] = some (.sl 0 0 n 1 (some n), [bytesR (List.replicate n 0)]) := by
  have h1 : (0 : Int) ≤ (n : Int) ∧ (n : Int) ≤ (n : Int) ∧ (n : Int) ≤ 1099511627776 ∧ ((1 : Nat) : Int) * (n : Int) ≤ 140737488355328 := by omega
  simp only [opH, if_pos h1, List.length_nil, Int.toNat_natCast, List.length_singleton, List.nil_append, repeatZ_zero, bytesR]
theorem op_storB (l : Str) (i : Nat) (b : UInt8) (h : i < l.length) : opH (.stor 1) [.ptr 0 (0 + i * 1), .int .u8 (b.toNat : Int)] [bytesR l] = some (.undef, [bytesR (l.set i b)]) := by
  have h1 := setAt_one (l.map fun b => AV.int .u8 b.toNat) i (.int .u8 b.toNat) (by simpa using h)
  simp only [opH, AV.cells, List.length_singleton, if_true, storeAt, rowAt, bytesR, List.getElem?_cons_zero, allOne, AV.one, Bool.and_self, Nat.zero_add, Nat.mul_one, h1, Option.map_some, List.set_cons_zero, List.map_set]
theorem op_idxB (j n i : Nat) (cap : Option Nat) (h : i < n) : opK (.idxA 1) [.sl j 0 n 1 cap, .int .i64 (i : Int)] = some (.ptr j (0 + i * 1)) := by
  have : (i : Int) < (n : Int) := by omega
  simp [opK, this]
/-- The first i bytes are filled. -/
def fill (k i : Nat) : Str := List.replicate i 107 ++ List.replicate (k - i) 0
theorem fill_len (k i : Nat) (h : i ≤ k) : (fill k i).length = k := by simp [fill]; omega
theorem fill_set {k i : Nat} (h : i < k) : (fill k i).set i 107 = fill k (i + 1) := by
  unfold fill
  obtain ⟨m, hm⟩ : ∃ m, k - i = m + 1 := ⟨k - i - 1, by omega⟩
  rw [show k - (i + 1) = m by omega, hm, List.replicate_succ, List.set_append, if_neg (by simp), List.replicate_succ']
  simp
theorem fill_last (k : Nat) (x : UInt8) : (fill (k + 1) (k + 1)).set k x = List.replicate k 107 ++ [x] := by
  unfold fill
  rw [Nat.sub_self, List.replicate_zero, List.append_nil, List.replicate_succ', List.set_append, if_neg (by simp)]
  simp
theorem keyOk_fill (k : Nat) (x : UInt8) : keyOk (List.replicate k 107 ++ [x]) = (decide (k + 1 ≤ 64) && keyB x) := by
  have h : (List.replicate k (107 : UInt8) ++ [x]).all keyB = keyB x := by
    rw [List.all_append]
    have : (List.replicate k (107 : UInt8)).all keyB = true := by
      rw [List.all_eq_true]
      intro b hb
      rw [List.eq_of_mem_replicate hb]; rfl
    rw [this]; simp
  unfold keyOk
  rw [h]
  simp only [List.length_append, List.length_replicate, List.length_singleton]
  simp
theorem not_big (k : Nat) (x : UInt8) : ([98, 105, 103] : Str) ≠ List.replicate k 107 ++ [x] := by
  intro h
  match k, h with
  | 0, h => simp at h
  | k + 1, h => simp [List.replicate_succ] at h
theorem put_form {s : StD} (k d : Str) (t : Int) (h : keyOk k = false ∨ d.length > 65536 ∨ t < 0) (ho : s.owed = []) : put s k d t = (100, ⟨s.most, inc s.calls, s.es, []⟩) := by
  obtain ⟨m, c, es, o⟩ := s
  simp only at ho; subst ho
  simp only [put, called, h, if_true, if_false, Bool.false_eq_true]
theorem op_addBig (z : Nat) (h : z ≤ 1) : opK (.bin .add) [.int .i64 65536, .int .i64 (z : Int)] = some (.int .i64 ((65536 + z : Nat) : Int)) := by
  have : IntKind.i64.wrap (65536 + (z : Int)) = ((65536 + z : Nat) : Int) := by rw [IntKind.wrap_i64]; omega
  simp only [opK, intK, if_true, this]
/-- The text that is too long, if so told: what Put answers. -/
theorem big_at (c : Int) (es : List EntS) (z : Nat) (hz : z ≤ 1) (hin : inE [98, 105, 103] es = false) (hl : es.length ≤ 1) : ∃ (g : Int) (e2 : List EntS), spE.sp 13 [.ptr 0 0, .str [98, 105, 103], .str (List.replicate (65536 + z) 0), .int .i64 0] (stH ⟨9, c, es, []⟩) = some (.int .i64 g, stH ⟨9, inc c, e2, []⟩) ∧ (g = 0 ↔ z = 0) := by
  have hp := at13 ⟨9, c, es, []⟩ [98, 105, 103] (List.replicate (65536 + z) 0) ((0 : Nat) : Int) (fit1_nil _ _ _)
  by_cases h : z = 0
  · subst h
    rw [put_new (k := [98, 105, 103]) rfl 9 c _ es 0 (by rw [List.length_replicate]; omega) hin (by omega)] at hp
    exact ⟨0, _, hp, by simp⟩
  · rw [put_form _ _ _ (.inr (.inl (by simp; omega))) rfl] at hp
    exact ⟨100, _, hp, by simp [h]⟩
theorem early_at (c : Int) (es : List EntS) (t : Int) (h : t < 0) : spE.sp 13 [.ptr 0 0, .str [101, 97, 114, 108, 121], .str [], .int .i64 t] (stH ⟨9, c, es, []⟩) = some (.int .i64 100, stH ⟨9, inc c, es, []⟩) := by
  have hp := at13 ⟨9, c, es, []⟩ [101, 97, 114, 108, 121] [] t (fit1_nil _ _ _)
  rw [put_form _ _ _ (.inr (.inr h)) rfl] at hp
  exact hp
theorem u8_byte (c : Int) : ∃ x : UInt8, opK (.conv .u8) [.int .i64 c] = some (.int .u8 (x.toNat : Int)) := by
  have h : 0 ≤ IntKind.u8.wrap c ∧ IntKind.u8.wrap c < 256 := by rw [IntKind.wrap_u8]; omega
  obtain ⟨n, hn⟩ := Int.eq_ofNat_of_zero_le h.1
  refine ⟨UInt8.ofNat n, ?_⟩
  have : (UInt8.ofNat n).toNat = n := by rw [UInt8.toNat_ofNat']; omega
  simp only [opK, this, hn]

theorem op_leq {k : IntKind} {a b : Int} {r : Bool} (h : decide (a ≤ b) = r) : opK (.bin .leq) [.int k a, .int k b] = some (.bool r) := by subst h; simp [opK, intK]
theorem ih_map0 {L : Env} {r r' : Heap} (hr : instH L r = some r') : instH L (.map [] :: r) = some (.map [] :: r') := by simp only [instH, hr]; rfl
theorem op_early (y : Nat) (h : y ≤ 7) : opK (.bin .sub) [.int .i64 (-1), .int .i64 (y : Int)] = some (.int .i64 (-1 - (y : Int))) := by
  have : IntKind.i64.wrap (-1 - (y : Int)) = -1 - (y : Int) := by rw [IntKind.wrap_i64]; omega
  simp only [opK, intK, if_true, this]
set_option maxHeartbeats 4000000 in
theorem keys_end (c sz : Int) (k z y : Nat) (hz : opK (.bin .and) [.int .i64 sz, .int .i64 1] = some (.int .i64 (z : Int))) (hz1 : z ≤ 1) (hy : opK (.bin .and) [.int .i64 sz, .int .i64 7] = some (.int .i64 (y : Int))) (hy7 : y ≤ 7) (hk : k ≤ 127) (q : Nat) :
    F5.next spE (q + 1) 0 [.int .i64 c, .int .i64 sz, .int .i64 k, .sl 0 0 k 1 (some k), .int .i64 k] [bytesR (fill k k), chO []] = some (.bool true, []) := by
  refine next_succ rfl ?_
  refine ev_no rfl (op_lss (by simp)) ?_
  obtain ⟨x, hx⟩ := u8_byte c
  refine ev_ask rfl hx rfl ?_
  simp only [List.cons_append, List.nil_append]
  have hxl : x.toNat < 256 := x.toNat_lt
  match k, hk with
  | 0, hk =>
    refine ev_no rfl (op_gtr (by simp)) ?_
    refine ev_phop rfl (ih_hid (clBy _) rfl rfl) (op_toS (fill 0 0) 0 _ (by simp [fill])) rfl ?_
    have hp := at13 ⟨9, 0, [], []⟩ (fill 0 0) [] ((0 : Nat) : Int) (fit1_nil _ _ _)
    rw [put_form _ _ _ (.inl (by simp [fill, keyOk])) rfl] at hp
    simp only [List.cons_append, List.nil_append]
    refine ev_call (f := 13) (sp := spE) rfl (ih_row rfl (ih_map0 (ih_hid (clC _) rfl rfl))) hp rfl (bh_row rfl (bh_hid (clM _) rfl (bh_hid (clC _) rfl rfl))) ?_
    simp only [List.cons_append, List.nil_append]
    refine ev_ask rfl (op_geq (r := false) (by simp)) rfl ?_
    obtain ⟨g, e2, hbig, hg⟩ := big_at (inc 0) [] z hz1 rfl (by simp)
    refine ev_ask rfl hz rfl ?_
    refine ev_ask rfl (op_addBig z hz1) rfl ?_
    simp only [List.cons_append, List.nil_append]
    refine ev_hop rfl rfl (op_mk (65536 + z) (by omega)) rfl (bh_hid (clBy _) rfl rfl) ?_
    simp only [List.cons_append, List.nil_append]
    refine ev_phop rfl (ih_hid (clBy _) rfl rfl) (op_toS _ _ _ (by simp)) rfl ?_
    simp only [List.cons_append, List.nil_append]
    refine ev_call rfl (ih_row rfl (ih_hid (clM _) rfl (ih_hid (clC _) rfl rfl))) hbig rfl (bh_row rfl (bh_hid (clM _) rfl (bh_hid (clC _) rfl rfl))) ?_
    simp only [List.cons_append, List.nil_append]
    refine ev_ask rfl hy rfl ?_
    refine ev_ask rfl (op_early y hy7) rfl ?_
    simp only [List.cons_append, List.nil_append]
    refine ev_call rfl (ih_row rfl (ih_hid (clM _) rfl (ih_hid (clC _) rfl rfl))) (early_at _ _ _ (by omega)) rfl (bh_row rfl (bh_hid (clM _) rfl (bh_hid (clC _) rfl rfl))) ?_
    simp only [List.cons_append, List.nil_append]
    refine ev_no rfl (op_eql (by simp)) ?_
    refine ev_yes rfl (op_eql (by simp)) ?_
    by_cases hz0 : z = 0
    · have hg0 := hg.2 hz0
      refine ev_yes rfl (op_eql (by simp [hg0])) ?_
      refine ev_yes rfl (op_eql (by simp [hz0])) ?_
      refine ev_yes rfl (op_eql (by simp)) ?_
      exact ev_ret rfl rfl
    · have hg0 : ¬ g = 0 := fun h => hz0 (hg.1 h)
      refine ev_no rfl (op_eql (by simp [hg0])) ?_
      refine ev_no rfl (op_eql (by simp [hz0])) ?_
      refine ev_yes rfl (op_eql (by simp)) ?_
      exact ev_ret rfl rfl
  | k + 1, hk =>
    have hkeq := keyOk_fill k x
    refine ev_yes rfl (op_gtr (by simp)) ?_
    have w1 : opK (.bin .sub) [.int .i64 ((k + 1 : Nat) : Int), .int .i64 1] = some (.int .i64 (k : Int)) := by
      have : IntKind.i64.wrap (((k + 1 : Nat) : Int) - 1) = (k : Int) := by rw [IntKind.wrap_i64]; omega
      simp only [opK, intK, if_true, this]
    refine ev_ask rfl w1 rfl ?_
    refine ev_ask rfl (op_idxB 1 (k + 1) k _ (by omega)) rfl ?_
    simp only [List.cons_append, List.nil_append]
    have hst := op_storB (fill (k + 1) (k + 1)) k x (by rw [fill_len _ _ (by omega)]; omega)
    rw [fill_last] at hst
    refine ev_hop rfl (ih_hid (clBy _) rfl rfl) hst rfl (bh_hid (clBy _) rfl rfl) ?_
    simp only [List.cons_append, List.nil_append]
    refine ev_phop rfl (ih_hid (clBy _) rfl rfl) (op_toS (List.replicate k 107 ++ [x]) (k + 1) _ (by simp)) rfl ?_
    simp only [List.cons_append, List.nil_append]
    have hp := at13 ⟨9, 0, [], []⟩ (List.replicate k 107 ++ [x]) [] ((0 : Nat) : Int) (fit1_nil _ _ _)
    have hsb : ∀ b, keyB b = (decide (33 ≤ b.toNat) && decide (b.toNat ≤ 126)) := fun b => by unfold keyB; rfl
    by_cases hfine : keyOk (List.replicate k 107 ++ [x]) = true
    · rw [put_new hfine 9 0 [] [] 0 (by simp) rfl (by simp)] at hp
      rw [hkeq, Bool.and_eq_true, hsb, Bool.and_eq_true, decide_eq_true_eq, decide_eq_true_eq, decide_eq_true_eq] at hfine
      obtain ⟨f1, f2, f3⟩ := hfine
      refine ev_call (f := 13) (sp := spE) rfl (ih_row rfl (ih_map0 (ih_hid (clC _) rfl rfl))) hp rfl (bh_row rfl (bh_hid (clM _) rfl (bh_hid (clC _) rfl rfl))) ?_
      simp only [List.cons_append, List.nil_append]
      refine ev_ask rfl (op_geq (r := true) (by simp; omega)) rfl ?_
      refine ev_yes rfl (op_leq (by simp; omega)) ?_
      refine ev_yes rfl (op_geq (by simp; omega)) ?_
      refine ev_yes rfl (op_leq (by simp; omega)) ?_
      obtain ⟨g, e2, hbig, hg⟩ := big_at (inc 0) [(List.replicate k 107 ++ [x], [], 0)] z hz1 (by simp [inE, not_big]) (by simp)
      refine ev_ask rfl hz rfl ?_
      refine ev_ask rfl (op_addBig z hz1) rfl ?_
      simp only [List.cons_append, List.nil_append]
      refine ev_hop rfl rfl (op_mk (65536 + z) (by omega)) rfl (bh_hid (clBy _) rfl rfl) ?_
      simp only [List.cons_append, List.nil_append]
      refine ev_phop rfl (ih_hid (clBy _) rfl rfl) (op_toS _ _ _ (by simp)) rfl ?_
      simp only [List.cons_append, List.nil_append]
      refine ev_call rfl (ih_row rfl (ih_hid (clM _) rfl (ih_hid (clC _) rfl rfl))) hbig rfl (bh_row rfl (bh_hid (clM _) rfl (bh_hid (clC _) rfl rfl))) ?_
      simp only [List.cons_append, List.nil_append]
      refine ev_ask rfl hy rfl ?_
      refine ev_ask rfl (op_early y hy7) rfl ?_
      simp only [List.cons_append, List.nil_append]
      refine ev_call rfl (ih_row rfl (ih_hid (clM _) rfl (ih_hid (clC _) rfl rfl))) (early_at _ _ _ (by omega)) rfl (bh_row rfl (bh_hid (clM _) rfl (bh_hid (clC _) rfl rfl))) ?_
      simp only [List.cons_append, List.nil_append]
      refine ev_yes rfl (op_eql (by simp)) ?_
      by_cases hz0 : z = 0
      · have hg0 := hg.2 hz0
        refine ev_yes rfl (op_eql (by simp [hg0])) ?_
        refine ev_yes rfl (op_eql (by simp [hz0])) ?_
        refine ev_yes rfl (op_eql (by simp)) ?_
        exact ev_ret rfl rfl
      · have hg0 : ¬ g = 0 := fun h => hz0 (hg.1 h)
        refine ev_no rfl (op_eql (by simp [hg0])) ?_
        refine ev_no rfl (op_eql (by simp [hz0])) ?_
        refine ev_yes rfl (op_eql (by simp)) ?_
        exact ev_ret rfl rfl
    · have hnot : keyOk (List.replicate k 107 ++ [x]) = false := by simpa using hfine
      rw [put_form _ _ _ (.inl hnot) rfl] at hp
      rw [hkeq, hsb] at hnot
      refine ev_call (f := 13) (sp := spE) rfl (ih_row rfl (ih_map0 (ih_hid (clC _) rfl rfl))) hp rfl (bh_row rfl (bh_hid (clM _) rfl (bh_hid (clC _) rfl rfl))) ?_
      simp only [List.cons_append, List.nil_append]
      refine ev_ask rfl (op_geq (r := true) (by simp; omega)) rfl ?_
      by_cases f1 : k + 1 ≤ 64
      · refine ev_yes rfl (op_leq (by simp; omega)) ?_
        by_cases f2 : 33 ≤ x.toNat
        · refine ev_yes rfl (op_geq (by simp; omega)) ?_
          have f3 : ¬ x.toNat ≤ 126 := fun h => by simp [f1, f2, h] at hnot
          refine ev_no rfl (op_leq (by simp; omega)) ?_
          obtain ⟨g, e2, hbig, hg⟩ := big_at (inc 0) [] z hz1 rfl (by simp)
          refine ev_ask rfl hz rfl ?_
          refine ev_ask rfl (op_addBig z hz1) rfl ?_
          simp only [List.cons_append, List.nil_append]
          refine ev_hop rfl rfl (op_mk (65536 + z) (by omega)) rfl (bh_hid (clBy _) rfl rfl) ?_
          simp only [List.cons_append, List.nil_append]
          refine ev_phop rfl (ih_hid (clBy _) rfl rfl) (op_toS _ _ _ (by simp)) rfl ?_
          simp only [List.cons_append, List.nil_append]
          refine ev_call rfl (ih_row rfl (ih_hid (clM _) rfl (ih_hid (clC _) rfl rfl))) hbig rfl (bh_row rfl (bh_hid (clM _) rfl (bh_hid (clC _) rfl rfl))) ?_
          simp only [List.cons_append, List.nil_append]
          refine ev_ask rfl hy rfl ?_
          refine ev_ask rfl (op_early y hy7) rfl ?_
          simp only [List.cons_append, List.nil_append]
          refine ev_call rfl (ih_row rfl (ih_hid (clM _) rfl (ih_hid (clC _) rfl rfl))) (early_at _ _ _ (by omega)) rfl (bh_row rfl (bh_hid (clM _) rfl (bh_hid (clC _) rfl rfl))) ?_
          simp only [List.cons_append, List.nil_append]
          refine ev_no rfl (op_eql (by simp)) ?_
          refine ev_yes rfl (op_eql (by simp)) ?_
          by_cases hz0 : z = 0
          · have hg0 := hg.2 hz0
            refine ev_yes rfl (op_eql (by simp [hg0])) ?_
            refine ev_yes rfl (op_eql (by simp [hz0])) ?_
            refine ev_yes rfl (op_eql (by simp)) ?_
            exact ev_ret rfl rfl
          · have hg0 : ¬ g = 0 := fun h => hz0 (hg.1 h)
            refine ev_no rfl (op_eql (by simp [hg0])) ?_
            refine ev_no rfl (op_eql (by simp [hz0])) ?_
            refine ev_yes rfl (op_eql (by simp)) ?_
            exact ev_ret rfl rfl
        · refine ev_no rfl (op_geq (by simp; omega)) ?_
          obtain ⟨g, e2, hbig, hg⟩ := big_at (inc 0) [] z hz1 rfl (by simp)
          refine ev_ask rfl hz rfl ?_
          refine ev_ask rfl (op_addBig z hz1) rfl ?_
          simp only [List.cons_append, List.nil_append]
          refine ev_hop rfl rfl (op_mk (65536 + z) (by omega)) rfl (bh_hid (clBy _) rfl rfl) ?_
          simp only [List.cons_append, List.nil_append]
          refine ev_phop rfl (ih_hid (clBy _) rfl rfl) (op_toS _ _ _ (by simp)) rfl ?_
          simp only [List.cons_append, List.nil_append]
          refine ev_call rfl (ih_row rfl (ih_hid (clM _) rfl (ih_hid (clC _) rfl rfl))) hbig rfl (bh_row rfl (bh_hid (clM _) rfl (bh_hid (clC _) rfl rfl))) ?_
          simp only [List.cons_append, List.nil_append]
          refine ev_ask rfl hy rfl ?_
          refine ev_ask rfl (op_early y hy7) rfl ?_
          simp only [List.cons_append, List.nil_append]
          refine ev_call rfl (ih_row rfl (ih_hid (clM _) rfl (ih_hid (clC _) rfl rfl))) (early_at _ _ _ (by omega)) rfl (bh_row rfl (bh_hid (clM _) rfl (bh_hid (clC _) rfl rfl))) ?_
          simp only [List.cons_append, List.nil_append]
          refine ev_no rfl (op_eql (by simp)) ?_
          refine ev_yes rfl (op_eql (by simp)) ?_
          by_cases hz0 : z = 0
          · have hg0 := hg.2 hz0
            refine ev_yes rfl (op_eql (by simp [hg0])) ?_
            refine ev_yes rfl (op_eql (by simp [hz0])) ?_
            refine ev_yes rfl (op_eql (by simp)) ?_
            exact ev_ret rfl rfl
          · have hg0 : ¬ g = 0 := fun h => hz0 (hg.1 h)
            refine ev_no rfl (op_eql (by simp [hg0])) ?_
            refine ev_no rfl (op_eql (by simp [hz0])) ?_
            refine ev_yes rfl (op_eql (by simp)) ?_
            exact ev_ret rfl rfl
      · refine ev_no rfl (op_leq (by simp; omega)) ?_
        obtain ⟨g, e2, hbig, hg⟩ := big_at (inc 0) [] z hz1 rfl (by simp)
        refine ev_ask rfl hz rfl ?_
        refine ev_ask rfl (op_addBig z hz1) rfl ?_
        simp only [List.cons_append, List.nil_append]
        refine ev_hop rfl rfl (op_mk (65536 + z) (by omega)) rfl (bh_hid (clBy _) rfl rfl) ?_
        simp only [List.cons_append, List.nil_append]
        refine ev_phop rfl (ih_hid (clBy _) rfl rfl) (op_toS _ _ _ (by simp)) rfl ?_
        simp only [List.cons_append, List.nil_append]
        refine ev_call rfl (ih_row rfl (ih_hid (clM _) rfl (ih_hid (clC _) rfl rfl))) hbig rfl (bh_row rfl (bh_hid (clM _) rfl (bh_hid (clC _) rfl rfl))) ?_
        simp only [List.cons_append, List.nil_append]
        refine ev_ask rfl hy rfl ?_
        refine ev_ask rfl (op_early y hy7) rfl ?_
        simp only [List.cons_append, List.nil_append]
        refine ev_call rfl (ih_row rfl (ih_hid (clM _) rfl (ih_hid (clC _) rfl rfl))) (early_at _ _ _ (by omega)) rfl (bh_row rfl (bh_hid (clM _) rfl (bh_hid (clC _) rfl rfl))) ?_
        simp only [List.cons_append, List.nil_append]
        refine ev_no rfl (op_eql (by simp)) ?_
        refine ev_yes rfl (op_eql (by simp)) ?_
        by_cases hz0 : z = 0
        · have hg0 := hg.2 hz0
          refine ev_yes rfl (op_eql (by simp [hg0])) ?_
          refine ev_yes rfl (op_eql (by simp [hz0])) ?_
          refine ev_yes rfl (op_eql (by simp)) ?_
          exact ev_ret rfl rfl
        · have hg0 : ¬ g = 0 := fun h => hz0 (hg.1 h)
          refine ev_no rfl (op_eql (by simp [hg0])) ?_
          refine ev_no rfl (op_eql (by simp [hz0])) ?_
          refine ev_yes rfl (op_eql (by simp)) ?_
          exact ev_ret rfl rfl
theorem keys_go (c sz : Int) (k z y : Nat) (hz : opK (.bin .and) [.int .i64 sz, .int .i64 1] = some (.int .i64 (z : Int))) (hz1 : z ≤ 1) (hy : opK (.bin .and) [.int .i64 sz, .int .i64 7] = some (.int .i64 (y : Int))) (hy7 : y ≤ 7) (hk : k ≤ 127) : ∀ (q i : Nat), k - i ≤ q → i ≤ k →
    F5.next spE (q + 1) 0 [.int .i64 c, .int .i64 sz, .int .i64 k, .sl 0 0 k 1 (some k), .int .i64 i] [bytesR (fill k i), chO []] = some (.bool true, []) := by
  intro q
  induction q with
  | zero =>
    intro i h1 h2
    obtain rfl : i = k := by omega
    exact keys_end c sz i z y hz hz1 hy hy7 hk 0
  | succ q ih =>
    intro i h1 h2
    rcases Nat.lt_or_ge i k with hi | hi
    · have hst := op_storB (fill k i) i 107 (by rw [fill_len _ _ h2]; exact hi)
      rw [fill_set hi] at hst
      refine next_succ rfl ?_
      refine ev_yes rfl (op_lss (by simp; omega)) ?_
      refine ev_ask rfl (op_idxB 1 k i _ hi) rfl ?_
      simp only [List.cons_append, List.nil_append]
      refine ev_hop rfl (ih_hid (clBy _) rfl rfl) hst rfl (bh_hid (clBy _) rfl rfl) ?_
      simp only [List.cons_append, List.nil_append]
      refine ev_ask rfl rfl rfl ?_
      refine ev_goto rfl (ih_hid (clBy _) rfl (ih_hid (clC _) rfl rfl)) ?_
      rw [i64_inc i (by omega)]
      exact ih (i + 1) (by omega) (by omega)
    · obtain rfl : i = k := by omega
      exact keys_end c sz i z y hz hz1 hy hy7 hk (q + 1)
theorem and_nat (a : Int) (m : Nat) (hm : m < 9223372036854775808) : ∃ z : Nat, opK (.bin .and) [.int .i64 a, .int .i64 (m : Int)] = some (.int .i64 (z : Int)) ∧ z ≤ m := by
  obtain ⟨h0, h1⟩ := andC_le a m hm
  obtain ⟨z, hz⟩ := Int.eq_ofNat_of_zero_le h0
  refine ⟨z, ?_, by omega⟩
  rw [op_andC, hz]
theorem keys_true (a c sz : Int) : ∃ H, F5.spec spE 200 [.int .i64 a, .int .i64 c, .int .i64 sz] [] = some (.bool true, H) := by
  refine ⟨[], ?_⟩
  obtain ⟨k, hk, hk1⟩ := and_nat a 127 (by omega)
  obtain ⟨z, hz, hz1⟩ := and_nat sz 1 (by omega)
  obtain ⟨y, hy, hy1⟩ := and_nat sz 7 (by omega)
  refine spec_of rfl rfl ?_
  refine ev_ask rfl hk rfl ?_
  simp only [List.cons_append, List.nil_append]
  refine ev_hop rfl rfl (op_mk k (by omega)) rfl (bh_hid (clBy _) rfl rfl) ?_
  simp only [List.cons_append, List.nil_append]
  refine ev_goto rfl (ih_hid (clBy _) rfl rfl) ?_
  have := keys_go c sz k z y hz hz1 hy hy1 hk1 199 0 (by omega) (by omega)
  exact this
end Go.Proofs.BoatV
