/-
  boathouselaw23.ConflictFiles (P23.1): whatever the kind, the value asked for and the answer to "a mark?", the law's function answers true and leaves its arguments as they were. Conditions: none beside the row's own.
-/
import Derived.Test.YtijaopmlldhbbaaDoorRows
import Derived.Test.YtijaopmlldhbbaaDoorTie
import Derived.Test.YtijaopmlldhbbaaDoorCards
import Derived.SevenTiedAt
import Derived.LaidMore
import Derived.Lay
import Derived.Stop.Joined
import Derived.Test.YtijaopmlldhbbaaDoorG4k0
import Derived.Test.YtijaopmlldhbbaaDoorG4k1
import Derived.Test.YtijaopmlldhbbaaDoorG4k2
import Derived.Test.YtijaopmlldhbbaaDoorG4k3
import Derived.WalkKit
import Derived.ProofKit
import Derived.OpenShut
import Derived.ShutString
namespace Go.Proofs.YtijaopmlldhbbaaDoor.conflictFiles
open Go.ChangeShapes Go.WideShapes Go.ChangeAt Go.RowKit Go.Proofs.BoatE
open Go.ChangeMaps (open_string shut_string)
set_option linter.unusedVariables false      -- a walk need not use every 'w<i>' (that an integer argument fits its kind)

theorem own : ownKnob Tryd.prog.godebug = none := by kernel_rfl

/-! The walk: the evaluator's answer at the kind's rest by four and at the value's class. -/
def names4 (a0 a1 x : Int) : Nat → Int | 0 => a0 | 1 => a1 | _ => x
theorem rem_ok (hv : Nat → Int) (t : Nat) (m : Int) (hm : 0 < m) (hb : m < 18446744073709551616) : HF.ok ⟨.rem, .u64, .tag t, .num m, .num ((IntKind.u64.wrap (hv t)) % m)⟩ hv := by
  intro P w ty
  have h0 : 0 ≤ IntKind.u64.wrap (hv t) := by rw [IntKind.wrap_u64]; omega
  simp only [HO.val, HR.val]
  generalize IntKind.u64.wrap (hv t) = n at *
  have e : n.tmod m = n % m := Int.tmod_eq_emod_of_nonneg h0
  have hm0 : ¬ m = 0 := by omega
  simp [binOp, Op.intDiv, e, hm0]
theorem and31 (n : Int) : IntKind.i64.wrap ((BitVec.ofInt 64 (IntKind.i64.wrap n) &&& BitVec.ofInt 64 31).toNat : Int) = n % 32 := by
  have h31 : (31 : BitVec 64) = BitVec.ofInt 64 31 := rfl
  have h1 : (BitVec.ofInt 64 (IntKind.i64.wrap n) &&& BitVec.ofInt 64 31).toNat = (BitVec.ofInt 64 (IntKind.i64.wrap n)).toNat % 32 := by
    rw [BitVec.toNat_and]
    have : (BitVec.ofInt 64 31).toNat = 2 ^ 5 - 1 := by decide
    rw [this, Nat.and_two_pow_sub_one_eq_mod]
  rw [h1, BitVec.toNat_ofInt, IntKind.wrap_i64, IntKind.wrap_i64]
  omega
theorem cases4 (k : Nat) (hk : k < 4) (b : Bool) : file4 k true false true false b = true ∧ file4 k false false true false b = true ∧ file4 k false true true false b = true ∧ file4 k false true false false b = true ∧ file4 k false true false true b = true := by
  rcases k with _ | _ | _ | _ | k
  · cases b
    · exact ⟨fil00f, fil01f, fil02f, fil03f, fil04f⟩
    · exact ⟨fil00t, fil01t, fil02t, fil03t, fil04t⟩
  · cases b
    · exact ⟨fil10f, fil11f, fil12f, fil13f, fil14f⟩
    · exact ⟨fil10t, fil11t, fil12t, fil13t, fil14t⟩
  · cases b
    · exact ⟨fil20f, fil21f, fil22f, fil23f, fil24f⟩
    · exact ⟨fil20t, fil21t, fil22t, fil23t, fil24t⟩
  · cases b
    · exact ⟨fil30f, fil31f, fil32f, fil33f, fil34f⟩
    · exact ⟨fil30t, fil31t, fil32t, fil33t, fil34t⟩
  · omega
theorem lss_ok {hv : Nat → Int} {a b : HO} {x y : Int} (ha : a.val hv .i64 = .int .i64 x) (hb : b.val hv .i64 = .int .i64 y) {c : Bool} (h : decide (x < y) = c) : HF.ok ⟨.lss, .i64, a, b, .bool c⟩ hv := by
  intro P w t; subst h; simp [ha, hb, HR.val, binOp, Op.intCmp]
theorem geq_ok {hv : Nat → Int} {a b : HO} {x y : Int} (ha : a.val hv .i64 = .int .i64 x) (hb : b.val hv .i64 = .int .i64 y) {c : Bool} (h : decide (y ≤ x) = c) : HF.ok ⟨.geq, .i64, a, b, .bool c⟩ hv := by
  intro P w t; subst h; simp [ha, hb, HR.val, binOp, Op.intCmp]
theorem leq_ok {hv : Nat → Int} {a b : HO} {x y : Int} (ha : a.val hv .i64 = .int .i64 x) (hb : b.val hv .i64 = .int .i64 y) {c : Bool} (h : decide (x ≤ y) = c) : HF.ok ⟨.leq, .i64, a, b, .bool c⟩ hv := by
  intro P w t; subst h; simp [ha, hb, HR.val, binOp, Op.intCmp]
theorem facts4 (a0 a1 : Int) (a b c d : Bool) (ha : decide (a1 % 32 < 10) = a) (hb : decide (10 < a1 % 32) = b) (hc : decide (a1 % 32 < 20) = c) (hd : decide (20 < a1 % 32) = d) :
    ∀ f ∈ fsX (IntKind.u64.wrap a0 % 4).toNat a b c d, f.ok (names4 a0 a1 (a1 % 32)) := by
  have hk : ((IntKind.u64.wrap a0 % 4).toNat : Int) = IntKind.u64.wrap a0 % 4 := by omega
  have hx : (HO.tag 2).val (names4 a0 a1 (a1 % 32)) .i64 = .int .i64 (a1 % 32) := by simp only [HO.val, names4]; rw [IntKind.wrap_i64]; congr 1; omega
  have hn : ∀ n : Int, (HO.num n).val (names4 a0 a1 (a1 % 32)) .i64 = .int .i64 n := fun n => rfl
  intro f hf
  simp only [fsX, List.mem_cons, List.not_mem_nil, or_false] at hf
  rcases hf with rfl | rfl | rfl | rfl | rfl | rfl | rfl | rfl
  · rw [hk]; exact rem_ok (names4 a0 a1 (a1 % 32)) 0 4 (by omega) (by omega)
  · intro P w t
    have h2 : (HR.tag 2).val (names4 a0 a1 (a1 % 32)) .i64 = .int .i64 (a1 % 32) := by simp only [HR.val, names4]; rw [IntKind.wrap_i64]; congr 1; omega
    rw [h2]
    simp only [HO.val, names4]
    simp only [binOp, Op.intBits, IntKind.bits]
    rw [← and31 a1]
    rfl
  · exact lss_ok hx (hn _) ha
  · exact lss_ok (hn _) hx hb
  · exact lss_ok hx (hn _) hc
  · exact lss_ok (hn _) hx hd
  · refine geq_ok hx (hn _) ?_
    subst ha
    by_cases h : a1 % 32 < 10
    · simp [h]
    · simp [h]; omega
  · refine leq_ok hx (hn _) ?_
    subst hd
    by_cases h : 20 < a1 % 32
    · simp [h]
    · simp [h]; omega
theorem wrap_wf {a : Int} (w : (Lit.int .i64 a).wf = true) : IntKind.i64.wrap a = a := by
  have hb : -9223372036854775808 ≤ a ∧ a ≤ 9223372036854775807 := by
    simp [Lit.wf, IntKind.min, IntKind.max, IntKind.signed, IntKind.bits] at w
    omega
  rw [IntKind.wrap_i64]; omega
theorem walk (a0 a1 : Int) (a2 : Bool) (w0 : (Lit.int .i64 a0).wf = true) (w1 : (Lit.int .i64 a1).wf = true) (w : World) :
    Calls Tryd.prog 4 #[.int .i64 a0, .int .i64 a1, .bool a2] w fun e w' => e = .returned (.bool true) ∧ Below w.heap.size w w' := by
  have hw0 : IntKind.i64.wrap a0 = a0 := wrap_wf w0
  have hw1 : IntKind.i64.wrap a1 = a1 := wrap_wf w1
  have hlt : (IntKind.u64.wrap a0 % 4).toNat < 4 := by omega
  obtain ⟨c0, c1, c2, c3, c4⟩ := cases4 _ hlt a2
  have go : ∀ a b c d : Bool, file4 (IntKind.u64.wrap a0 % 4).toNat a b c d a2 = true → decide (a1 % 32 < 10) = a → decide (10 < a1 % 32) = b → decide (a1 % 32 < 20) = c → decide (20 < a1 % 32) = d →
      Calls Tryd.prog 4 #[.int .i64 a0, .int .i64 a1, .bool a2] w fun e w' => e = .returned (.bool true) ∧ Below w.heap.size w w' := by
    intro a b c d h ha hb hc hd
    have hf := facts4 a0 a1 a b c d ha hb hc hd
    have r0 := Rep.hid (w := w) (L := ⟨fun _ => True, names4 a0 a1 (a1 % 32)⟩) (β := []) .i64 0 _ hf
    have r1 := Rep.hid (w := w) (L := ⟨fun _ => True, names4 a0 a1 (a1 % 32)⟩) (β := []) .i64 1 _ hf
    simp only [names4, hw0, hw1] at r0 r1
    exact calls_true (vs := [.int .i64 a0, .int .i64 a1, .bool a2]) (cf2_ok 30) (names4 a0 a1 (a1 % 32)) (isTrue_spec h) (Reps.cons r0 (Reps.cons r1 (Reps.cons (.bool a2) Reps.nil))) rep_bool
  by_cases h1 : a1 % 32 < 10
  · exact go _ _ _ _ c0 (by simp [h1]) (by simp; omega) (by simp; omega) (by simp; omega)
  · by_cases h2 : a1 % 32 = 10
    · exact go _ _ _ _ c1 (by simp; omega) (by simp; omega) (by simp; omega) (by simp; omega)
    · by_cases h3 : a1 % 32 < 20
      · exact go _ _ _ _ c2 (by simp; omega) (by simp; omega) (by simp; omega) (by simp; omega)
      · by_cases h4 : a1 % 32 = 20
        · exact go _ _ _ _ c3 (by simp; omega) (by simp; omega) (by simp; omega) (by simp; omega)
        · exact go _ _ _ _ c4 (by simp; omega) (by simp; omega) (by simp; omega) (by simp; omega)

/-! ### THE ROW's STEP: WRITTEN OUT: LEAVE IT -/
set_option maxRecDepth 100000 in
theorem lifted (os : Os) (started : os.Started) (H : Type) (enc : TypeId × Value → H) :
    ReturnsInHanded {} Tryd.checked os 4 .any (fun w args => (Rows.conflictFilesSpec.pre enc Tryd.prog Tryd.f4 Rows.conflictFilesRow.domain false w args ∧ laidMetH Tryd.prog Rows.conflictFilesRow.laid w) ∧ sizedMet enc Tryd.prog Tryd.f4 (OpenSpec.ofChange Rows.conflictFilesSpec) false w args)
      (Rows.conflictFilesSpec.post enc Tryd.prog Tryd.f4 false true false false) := by
  refine returnsInHanded_of_change_and (C := Tryd.checked) (X := fun w _ => laidMetH Tryd.prog Rows.conflictFilesRow.laid w) (fun _ _ _ hh h => h.of_heap hh) own started (by kernel_rfl) Tryd.func4
    (ChangeSpec.witness_shaped (enc := enc) (C := Tryd.checked) (os := os) (X := fun w _ => laidMetH Tryd.prog Rows.conflictFilesRow.laid w) false (World.laidAll Tryd.prog os Rows.conflictFilesRow.laid) #[.int .i64 0, .int .i64 0, .bool false] 8 (World.laidAll_os _ _ _)
      (World.shaped_of_ZipB (by kernel_rfl) (by kernel_rfl)) (by kernel_rfl) (by kernel_rfl) (by kernel_rfl)
      (by rw [MakeChecks.laidMetH_plain _ _ _ (by kernel_rfl)]; exact laidMet_laidAll _ (by kernel_rfl) (by kernel_rfl))) ?_
  intro W base args ds gs before hval0 hW hcnd _ hL _
  have hval : ∀ (j : Nat) t v, Tryd.f4.params[j]? = some t → args[j]? = some v → Value.okWide Tryd.prog W .any base t v := hval0
  have hW' := hW
  obtain ⟨p, q, hA0, hV, rfl, hfz, hnd⟩ := hW
  have hA : DataW.TrodAll enc Tryd.prog W 0 (fun _ => true) true Tryd.f4.params.toList args.toList ds p := hA0
  rw [Tryd.params4] at hA hval
  obtain ⟨v0, vs0, d0, ds0, p0, q0, hargs, rfl, rfl, h0, r0⟩ := trodAll_cons hA
  obtain ⟨v1, vs1, d1, ds1, p1, q1, rfl, rfl, rfl, h1, r1⟩ := trodAll_cons r0
  obtain ⟨v2, vs2, d2, ds2, p2, q2, rfl, rfl, rfl, h2, r2⟩ := trodAll_cons r1
  obtain ⟨rfl, rfl, rfl⟩ := trodAll_nil r2
  obtain rfl : args = #[v0, v1, v2] := by cases args; simp_all
  obtain ⟨rfl, rfl⟩ := trodVars_none hV
  obtain ⟨a0, rfl, rfl, rfl, w0⟩ := open_int Tryd.underlying3 (hval 0 3 v0 rfl rfl) h0
  obtain ⟨a1, rfl, rfl, rfl, w1⟩ := open_int Tryd.underlying3 (hval 1 3 v1 rfl rfl) h1
  obtain ⟨a2, rfl, rfl, rfl⟩ := open_bool Tryd.underlying4 (hval 2 4 v2 rfl rfl) h2
  clear hA0 hval0
  simp only [List.append_nil] at hW'
  refine (walk a0 a1 a2 w0 w1 W).mono fun e W' ⟨he, hg⟩ => ?_
  subst he
  exact ⟨_, rfl, post_of_below (pa := []) (pv := []) hW' hg (fun _ _ _ => (trodAll_cons_mk (shut_bool Tryd.underlying4 _) trodAll_mk0)) (fun sp _ => (trodAll_cons_mk (shut_int Tryd.underlying3 w0) (trodAll_cons_mk (shut_int Tryd.underlying3 w1) (trodAll_cons_mk (shut_bool Tryd.underlying4 _) trodAll_mk0)))) (fun _ _ => rfl) rfl
    (ok_one (by kernel_rfl) rfl (okWide_bool_mk Tryd.underlying4 _))⟩

theorem over : Rows.conflictFilesRow.holds Tryd.pinned (OpenSpec.ofChange Rows.conflictFilesSpec) :=
  OpenClaim.holds_of_wide 4 Tryd.f4 rfl rfl rfl rfl rfl rfl rfl ⟨rfl, rfl, rfl, rfl, rfl⟩ rfl rfl rfl rfl rfl (by kernel_rfl) Tryd.func4 (by kernel_rfl)
    (of_decide_eq_true (by kernel_rfl)) (by unfold Func.isWrapper; first | (rw [if_pos (by decide +kernel)]; kernel_rfl) | (rw [if_neg (by decide +kernel)]; exact ⟨rfl, rfl⟩))
    (fun os started H enc _ => lifted os started H enc)

theorem proved : Rows.ConflictFilesSaid := over
/-- The tied card. -/
theorem card_holds : Rows.ConflictFilesCardSaid :=
  Claim7.holds_tied_plain_at .later [] [.data, .pinned] true (true, "e9434e47aa4a33de722a910df5af0964b2e379e3c350d3c4edbf3bf7ce0ff90b") false
    proved (fun _ h => by cases h) (by kernel_rfl) (fun _ h => by cases h) conflictFiles_row_tie rfl ⟨rfl, rfl⟩ (by kernel_rfl) rfl
    (fun f fn hf hfn => by
      obtain rfl : f = 4 := Option.some.inj ((show Tryd.prog.funcNamed "boathouse/boathouselaw23.ConflictFiles" = some 4 by kernel_rfl).symm.trans hf) |>.symm
      obtain rfl : fn = Tryd.f4 := (Option.some.inj (Tryd.func4.symm.trans hfn)).symm
      exact ⟨by kernel_rfl, fun j t ht => by
        rw [Tryd.params4] at ht
        have h3 : t = 3 ∨ t = 4 := by
          rcases j with _ | _ | _ | j
          · left; simpa using ht.symm
          · left; simpa using ht.symm
          · right; simpa using ht.symm
          · simp at ht
        rcases h3 with rfl | rfl
        · exact (show Tryd.prog.wantsStandIn 3 = false by kernel_rfl)
        · exact (show Tryd.prog.wantsStandIn 4 = false by kernel_rfl)⟩)
    (by kernel_rfl)
#print axioms card_holds
end Go.Proofs.YtijaopmlldhbbaaDoor.conflictFiles
