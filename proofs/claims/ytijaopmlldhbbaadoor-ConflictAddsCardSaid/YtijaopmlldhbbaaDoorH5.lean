/-
  boathouselaw23.ConflictAdds (P23.1): whatever the kind, the value asked for, the file's least value and its rows, the law's function answers true and leaves its arguments as they were. Conditions: none beside the row's own.
-/
import Derived.Test.YtijaopmlldhbbaaDoorRows
import Derived.Test.YtijaopmlldhbbaaDoorTie
import Derived.Test.YtijaopmlldhbbaaDoorCards
import Derived.SevenTiedAt
import Derived.LaidMore
import Derived.Lay
import Derived.Stop.Joined
import Derived.Test.YtijaopmlldhbbaaDoorG5k0
import Derived.Test.YtijaopmlldhbbaaDoorG5k1
import Derived.Test.YtijaopmlldhbbaaDoorG5k2
import Derived.Test.YtijaopmlldhbbaaDoorG5k3
import Derived.Test.YtijaopmlldhbbaaDoorG5k4
import Derived.WalkKit
import Derived.ProofKit
import Derived.OpenShut
import Derived.ShutString
namespace Go.Proofs.YtijaopmlldhbbaaDoor.conflictAdds
open Go.ChangeShapes Go.WideShapes Go.ChangeAt Go.RowKit Go.Proofs.BoatE
open Go.ChangeMaps (open_string shut_string)
set_option linter.unusedVariables false      -- a walk need not use every 'w<i>' (that an integer argument fits its kind)

theorem own : ownKnob Tryd.prog.godebug = none := by kernel_rfl

/-! The walk: the evaluator's answer at the kind's rest by five, the rows' parity, and the class of the value asked for. -/
def names5 (a0 a1 a2 a3 x y z : Int) : Nat → Int | 0 => a0 | 1 => a1 | 2 => a2 | 3 => a3 | 4 => x | 5 => y | _ => z
theorem rem_ok (hv : Nat → Int) (t : Nat) (m : Int) (hm : 0 < m) (hb : m < 18446744073709551616) : HF.ok ⟨.rem, .u64, .tag t, .num m, .num ((IntKind.u64.wrap (hv t)) % m)⟩ hv := by
  intro P w ty
  have h0 : 0 ≤ IntKind.u64.wrap (hv t) := by rw [IntKind.wrap_u64]; omega
  simp only [HO.val, HR.val]
  generalize IntKind.u64.wrap (hv t) = n at *
  have e : n.tmod m = n % m := Int.tmod_eq_emod_of_nonneg h0
  have hm0 : ¬ m = 0 := by omega
  simp [binOp, Op.intDiv, e, hm0]
theorem and31 (n : Int) : IntKind.i64.wrap ((BitVec.ofInt 64 (IntKind.i64.wrap n) &&& BitVec.ofInt 64 31).toNat : Int) = n % 32 := by
  have h31 : (31 : BitVec 64) = BitVec.ofInt 64 31 := rfl
  have h1 : (BitVec.ofInt 64 (IntKind.i64.wrap n) &&& BitVec.ofInt 64 31).toNat = (BitVec.ofInt 64 (IntKind.i64.wrap n)).toNat % 32 := by
    rw [BitVec.toNat_and]
    have : (BitVec.ofInt 64 31).toNat = 2 ^ 5 - 1 := by decide
    rw [this, Nat.and_two_pow_sub_one_eq_mod]
  rw [h1, BitVec.toNat_ofInt, IntKind.wrap_i64, IntKind.wrap_i64]
  omega
theorem lss_ok {hv : Nat → Int} {a b : HO} {x y : Int} (ha : a.val hv .i64 = .int .i64 x) (hb : b.val hv .i64 = .int .i64 y) {c : Bool} (h : decide (x < y) = c) : HF.ok ⟨.lss, .i64, a, b, .bool c⟩ hv := by
  intro P w t; subst h; simp [ha, hb, HR.val, binOp, Op.intCmp]
theorem geq_ok {hv : Nat → Int} {a b : HO} {x y : Int} (ha : a.val hv .i64 = .int .i64 x) (hb : b.val hv .i64 = .int .i64 y) {c : Bool} (h : decide (y ≤ x) = c) : HF.ok ⟨.geq, .i64, a, b, .bool c⟩ hv := by
  intro P w t; subst h; simp [ha, hb, HR.val, binOp, Op.intCmp]
theorem leq_ok {hv : Nat → Int} {a b : HO} {x y : Int} (ha : a.val hv .i64 = .int .i64 x) (hb : b.val hv .i64 = .int .i64 y) {c : Bool} (h : decide (x ≤ y) = c) : HF.ok ⟨.leq, .i64, a, b, .bool c⟩ hv := by
  intro P w t; subst h; simp [ha, hb, HR.val, binOp, Op.intCmp]
theorem wrap_wf {a : Int} (w : (Lit.int .i64 a).wf = true) : IntKind.i64.wrap a = a := by
  have hb : -9223372036854775808 ≤ a ∧ a ≤ 9223372036854775807 := by
    simp [Lit.wf, IntKind.min, IntKind.max, IntKind.signed, IntKind.bits] at w
    omega
  rw [IntKind.wrap_i64]; omega
theorem and1 (n : Int) : IntKind.i64.wrap ((BitVec.ofInt 64 (IntKind.i64.wrap n) &&& BitVec.ofInt 64 1).toNat : Int) = n % 2 := by
  have h1 : (BitVec.ofInt 64 (IntKind.i64.wrap n) &&& BitVec.ofInt 64 1).toNat = (BitVec.ofInt 64 (IntKind.i64.wrap n)).toNat % 2 := by
    rw [BitVec.toNat_and]
    have : (BitVec.ofInt 64 1).toNat = 2 ^ 1 - 1 := by decide
    rw [this, Nat.and_two_pow_sub_one_eq_mod]
  rw [h1, BitVec.toNat_ofInt, IntKind.wrap_i64, IntKind.wrap_i64]
  omega
theorem cases5 (k r : Nat) (hk : k < 5) (hr : r < 2) : add5 k r true false true false = true ∧ add5 k r false false true false = true ∧ add5 k r false true true false = true ∧ add5 k r false true false false = true ∧ add5 k r false true false true = true := by
  rcases k with _ | _ | _ | _ | _ | k
  · rcases r with _ | _ | r
    · exact ⟨add000, add001, add002, add003, add004⟩
    · exact ⟨add010, add011, add012, add013, add014⟩
    · omega
  · rcases r with _ | _ | r
    · exact ⟨add100, add101, add102, add103, add104⟩
    · exact ⟨add110, add111, add112, add113, add114⟩
    · omega
  · rcases r with _ | _ | r
    · exact ⟨add200, add201, add202, add203, add204⟩
    · exact ⟨add210, add211, add212, add213, add214⟩
    · omega
  · rcases r with _ | _ | r
    · exact ⟨add300, add301, add302, add303, add304⟩
    · exact ⟨add310, add311, add312, add313, add314⟩
    · omega
  · rcases r with _ | _ | r
    · exact ⟨add400, add401, add402, add403, add404⟩
    · exact ⟨add410, add411, add412, add413, add414⟩
    · omega
  · omega
theorem facts5 (a0 a1 a2 a3 : Int) (a b c d : Bool) (ha : decide (a1 % 32 < a2 % 32) = a) (hb : decide (a2 % 32 < a1 % 32) = b) (hc : decide (a1 % 32 < a2 % 32 + 3) = c) (hd : decide (a2 % 32 + 3 < a1 % 32) = d) :
    ∀ f ∈ fsA (IntKind.u64.wrap a0 % 5).toNat (a3 % 2).toNat a b c d, f.ok (names5 a0 a1 a2 a3 (a1 % 32) (a2 % 32) (a2 % 32 + 3)) := by
  have hk : ((IntKind.u64.wrap a0 % 5).toNat : Int) = IntKind.u64.wrap a0 % 5 := by omega
  have hr : ((a3 % 2).toNat : Int) = a3 % 2 := by omega
  generalize hN : names5 a0 a1 a2 a3 (a1 % 32) (a2 % 32) (a2 % 32 + 3) = N
  have n0 : N 0 = a0 := by rw [← hN]; rfl
  have n1 : N 1 = a1 := by rw [← hN]; rfl
  have n2 : N 2 = a2 := by rw [← hN]; rfl
  have n3 : N 3 = a3 := by rw [← hN]; rfl
  have hx : (HO.tag 4).val N .i64 = .int .i64 (a1 % 32) := by rw [← hN]; simp only [HO.val, names5]; rw [IntKind.wrap_i64]; congr 1; omega
  have hy : (HO.tag 5).val N .i64 = .int .i64 (a2 % 32) := by rw [← hN]; simp only [HO.val, names5]; rw [IntKind.wrap_i64]; congr 1; omega
  have hz : (HO.tag 6).val N .i64 = .int .i64 (a2 % 32 + 3) := by rw [← hN]; simp only [HO.val, names5]; rw [IntKind.wrap_i64]; congr 1; omega
  have rx : (HR.tag 4).val N .i64 = .int .i64 (a1 % 32) := hx
  have ry : (HR.tag 5).val N .i64 = .int .i64 (a2 % 32) := hy
  have rz : (HR.tag 6).val N .i64 = .int .i64 (a2 % 32 + 3) := hz
  intro f hf
  simp only [fsA, List.mem_cons, List.not_mem_nil, or_false] at hf
  rcases hf with rfl | rfl | rfl | rfl | rfl | rfl | rfl | rfl | rfl | rfl | rfl
  · rw [hk]
    have := rem_ok N 0 5 (by omega) (by omega)
    rw [n0] at this; exact this
  · intro P w t
    rw [rx]
    simp only [HO.val, n1]
    simp only [binOp, Op.intBits, IntKind.bits]
    rw [← and31 a1]
    rfl
  · intro P w t
    rw [ry]
    simp only [HO.val, n2]
    simp only [binOp, Op.intBits, IntKind.bits]
    rw [← and31 a2]
    rfl
  · intro P w t
    simp only [HO.val, HR.val, n3, hr]
    simp only [binOp, Op.intBits, IntKind.bits]
    rw [← and1 a3]
    rfl
  · intro P w t
    rw [rz, hy]
    have e : IntKind.i64.wrap (a2 % 32 + 3) = a2 % 32 + 3 := by rw [IntKind.wrap_i64]; omega
    simp [HO.val, binOp, Op.intArith, e]
  · exact lss_ok hx hy ha
  · exact lss_ok hy hx hb
  · exact lss_ok hx hz hc
  · exact lss_ok hz hx hd
  · refine geq_ok hx hy ?_
    subst ha
    by_cases h : a1 % 32 < a2 % 32
    · simp [h]
    · simp [h]; omega
  · refine leq_ok hx hz ?_
    subst hd
    by_cases h : a2 % 32 + 3 < a1 % 32
    · simp [h]
    · simp [h]; omega
theorem walk (a0 a1 a2 a3 : Int) (w0 : (Lit.int .i64 a0).wf = true) (w1 : (Lit.int .i64 a1).wf = true) (w2 : (Lit.int .i64 a2).wf = true) (w3 : (Lit.int .i64 a3).wf = true) (w : World) :
    Calls Tryd.prog 5 #[.int .i64 a0, .int .i64 a1, .int .i64 a2, .int .i64 a3] w fun e w' => e = .returned (.bool true) ∧ Below w.heap.size w w' := by
  have hw0 : IntKind.i64.wrap a0 = a0 := wrap_wf w0
  have hw1 : IntKind.i64.wrap a1 = a1 := wrap_wf w1
  have hw2 : IntKind.i64.wrap a2 = a2 := wrap_wf w2
  have hw3 : IntKind.i64.wrap a3 = a3 := wrap_wf w3
  have hlt : (IntKind.u64.wrap a0 % 5).toNat < 5 := by omega
  have hlr : (a3 % 2).toNat < 2 := by omega
  obtain ⟨c0, c1, c2, c3, c4⟩ := cases5 _ _ hlt hlr
  have go : ∀ a b c d : Bool, add5 (IntKind.u64.wrap a0 % 5).toNat (a3 % 2).toNat a b c d = true → decide (a1 % 32 < a2 % 32) = a → decide (a2 % 32 < a1 % 32) = b → decide (a1 % 32 < a2 % 32 + 3) = c → decide (a2 % 32 + 3 < a1 % 32) = d →
      Calls Tryd.prog 5 #[.int .i64 a0, .int .i64 a1, .int .i64 a2, .int .i64 a3] w fun e w' => e = .returned (.bool true) ∧ Below w.heap.size w w' := by
    intro a b c d h ha hb hc hd
    have hf := facts5 a0 a1 a2 a3 a b c d ha hb hc hd
    have r0 := Rep.hid (w := w) (L := ⟨fun _ => True, names5 a0 a1 a2 a3 (a1 % 32) (a2 % 32) (a2 % 32 + 3)⟩) (β := []) .i64 0 _ hf
    have r1 := Rep.hid (w := w) (L := ⟨fun _ => True, names5 a0 a1 a2 a3 (a1 % 32) (a2 % 32) (a2 % 32 + 3)⟩) (β := []) .i64 1 _ hf
    have r2 := Rep.hid (w := w) (L := ⟨fun _ => True, names5 a0 a1 a2 a3 (a1 % 32) (a2 % 32) (a2 % 32 + 3)⟩) (β := []) .i64 2 _ hf
    have r3 := Rep.hid (w := w) (L := ⟨fun _ => True, names5 a0 a1 a2 a3 (a1 % 32) (a2 % 32) (a2 % 32 + 3)⟩) (β := []) .i64 3 _ hf
    simp only [names5, hw0, hw1, hw2, hw3] at r0 r1 r2 r3
    exact calls_true (vs := [.int .i64 a0, .int .i64 a1, .int .i64 a2, .int .i64 a3]) (cf2_ok 30) (names5 a0 a1 a2 a3 (a1 % 32) (a2 % 32) (a2 % 32 + 3)) (isTrue_spec h) (Reps.cons r0 (Reps.cons r1 (Reps.cons r2 (Reps.cons r3 Reps.nil)))) rep_bool
  by_cases h1 : a1 % 32 < a2 % 32
  · exact go _ _ _ _ c0 (by simp [h1]) (by simp; omega) (by simp; omega) (by simp; omega)
  · by_cases h2 : a1 % 32 = a2 % 32
    · exact go _ _ _ _ c1 (by simp; omega) (by simp; omega) (by simp; omega) (by simp; omega)
    · by_cases h3 : a1 % 32 < a2 % 32 + 3
      · exact go _ _ _ _ c2 (by simp; omega) (by simp; omega) (by simp; omega) (by simp; omega)
      · by_cases h4 : a1 % 32 = a2 % 32 + 3
        · exact go _ _ _ _ c3 (by simp; omega) (by simp; omega) (by simp; omega) (by simp; omega)
        · exact go _ _ _ _ c4 (by simp; omega) (by simp; omega) (by simp; omega) (by simp; omega)

/-! ### THE ROW's STEP: WRITTEN OUT: LEAVE IT -/
set_option maxRecDepth 100000 in
theorem lifted (os : Os) (started : os.Started) (H : Type) (enc : TypeId × Value → H) :
    ReturnsInHanded {} Tryd.checked os 5 .any (fun w args => (Rows.conflictAddsSpec.pre enc Tryd.prog Tryd.f5 Rows.conflictAddsRow.domain false w args ∧ laidMetH Tryd.prog Rows.conflictAddsRow.laid w) ∧ sizedMet enc Tryd.prog Tryd.f5 (OpenSpec.ofChange Rows.conflictAddsSpec) false w args)
      (Rows.conflictAddsSpec.post enc Tryd.prog Tryd.f5 false true false false) := by
  refine returnsInHanded_of_change_and (C := Tryd.checked) (X := fun w _ => laidMetH Tryd.prog Rows.conflictAddsRow.laid w) (fun _ _ _ hh h => h.of_heap hh) own started (by kernel_rfl) Tryd.func5
    (ChangeSpec.witness_shaped (enc := enc) (C := Tryd.checked) (os := os) (X := fun w _ => laidMetH Tryd.prog Rows.conflictAddsRow.laid w) false (World.laidAll Tryd.prog os Rows.conflictAddsRow.laid) #[.int .i64 0, .int .i64 0, .int .i64 0, .int .i64 0] 8 (World.laidAll_os _ _ _)
      (World.shaped_of_ZipB (by kernel_rfl) (by kernel_rfl)) (by kernel_rfl) (by kernel_rfl) (by kernel_rfl)
      (by rw [MakeChecks.laidMetH_plain _ _ _ (by kernel_rfl)]; exact laidMet_laidAll _ (by kernel_rfl) (by kernel_rfl))) ?_
  intro W base args ds gs before hval0 hW hcnd _ hL _
  have hval : ∀ (j : Nat) t v, Tryd.f5.params[j]? = some t → args[j]? = some v → Value.okWide Tryd.prog W .any base t v := hval0
  have hW' := hW
  obtain ⟨p, q, hA0, hV, rfl, hfz, hnd⟩ := hW
  have hA : DataW.TrodAll enc Tryd.prog W 0 (fun _ => true) true Tryd.f5.params.toList args.toList ds p := hA0
  rw [Tryd.params5] at hA hval
  obtain ⟨v0, vs0, d0, ds0, p0, q0, hargs, rfl, rfl, h0, r0⟩ := trodAll_cons hA
  obtain ⟨v1, vs1, d1, ds1, p1, q1, rfl, rfl, rfl, h1, r1⟩ := trodAll_cons r0
  obtain ⟨v2, vs2, d2, ds2, p2, q2, rfl, rfl, rfl, h2, r2⟩ := trodAll_cons r1
  obtain ⟨v3, vs3, d3, ds3, p3, q3, rfl, rfl, rfl, h3, r3⟩ := trodAll_cons r2
  obtain ⟨rfl, rfl, rfl⟩ := trodAll_nil r3
  obtain rfl : args = #[v0, v1, v2, v3] := by cases args; simp_all
  obtain ⟨rfl, rfl⟩ := trodVars_none hV
  obtain ⟨a0, rfl, rfl, rfl, w0⟩ := open_int Tryd.underlying3 (hval 0 3 v0 rfl rfl) h0
  obtain ⟨a1, rfl, rfl, rfl, w1⟩ := open_int Tryd.underlying3 (hval 1 3 v1 rfl rfl) h1
  obtain ⟨a2, rfl, rfl, rfl, w2⟩ := open_int Tryd.underlying3 (hval 2 3 v2 rfl rfl) h2
  obtain ⟨a3, rfl, rfl, rfl, w3⟩ := open_int Tryd.underlying3 (hval 3 3 v3 rfl rfl) h3
  clear hA0 hval0
  simp only [List.append_nil] at hW'
  refine (walk a0 a1 a2 a3 w0 w1 w2 w3 W).mono fun e W' ⟨he, hg⟩ => ?_
  subst he
  exact ⟨_, rfl, post_of_below (pa := []) (pv := []) hW' hg (fun _ _ _ => (trodAll_cons_mk (shut_bool Tryd.underlying4 _) trodAll_mk0)) (fun sp _ => (trodAll_cons_mk (shut_int Tryd.underlying3 w0) (trodAll_cons_mk (shut_int Tryd.underlying3 w1) (trodAll_cons_mk (shut_int Tryd.underlying3 w2) (trodAll_cons_mk (shut_int Tryd.underlying3 w3) trodAll_mk0))))) (fun _ _ => rfl) rfl
    (ok_one (by kernel_rfl) rfl (okWide_bool_mk Tryd.underlying4 _))⟩

theorem over : Rows.conflictAddsRow.holds Tryd.pinned (OpenSpec.ofChange Rows.conflictAddsSpec) :=
  OpenClaim.holds_of_wide 5 Tryd.f5 rfl rfl rfl rfl rfl rfl rfl ⟨rfl, rfl, rfl, rfl, rfl⟩ rfl rfl rfl rfl rfl (by kernel_rfl) Tryd.func5 (by kernel_rfl)
    (of_decide_eq_true (by kernel_rfl)) (by unfold Func.isWrapper; first | (rw [if_pos (by decide +kernel)]; kernel_rfl) | (rw [if_neg (by decide +kernel)]; exact ⟨rfl, rfl⟩))
    (fun os started H enc _ => lifted os started H enc)

theorem proved : Rows.ConflictAddsSaid := over
/-- The tied card. -/
theorem card_holds : Rows.ConflictAddsCardSaid :=
  Claim7.holds_tied_plain_at .later [] [.data, .pinned] true (true, "e9434e47aa4a33de722a910df5af0964b2e379e3c350d3c4edbf3bf7ce0ff90b") false
    proved (fun _ h => by cases h) (by kernel_rfl) (fun _ h => by cases h) conflictAdds_row_tie rfl ⟨rfl, rfl⟩ (by kernel_rfl) rfl
    (fun f fn hf hfn => by
      obtain rfl : f = 5 := Option.some.inj ((show Tryd.prog.funcNamed "boathouse/boathouselaw23.ConflictAdds" = some 5 by kernel_rfl).symm.trans hf) |>.symm
      obtain rfl : fn = Tryd.f5 := (Option.some.inj (Tryd.func5.symm.trans hfn)).symm
      exact ⟨by kernel_rfl, fun j t ht => by
        rw [Tryd.params5] at ht
        have h3 : t = 3 := by
          rcases j with _ | _ | _ | _ | j
          · simpa using ht.symm
          · simpa using ht.symm
          · simpa using ht.symm
          · simpa using ht.symm
          · simp at ht
        rw [h3]
        exact (show Tryd.prog.wantsStandIn 3 = false by kernel_rfl)⟩)
    (by kernel_rfl)
#print axioms card_holds
end Go.Proofs.YtijaopmlldhbbaaDoor.conflictAdds
