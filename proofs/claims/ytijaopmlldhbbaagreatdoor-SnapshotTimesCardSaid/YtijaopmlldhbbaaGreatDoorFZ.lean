/- What holds at this seat: the functions entered, the library's contracts, the answers kept ('printed', 'awake'). -/
import Derived.Test.YtijaopmlldhbbaaGreatDoorV21
import Derived.Test.YtijaopmlldhbbaaGreatDoorShelf
namespace Go.Proofs.BoatV
open Go Go.Proofs
set_option maxRecDepth 100000

theorem mixedZ : Tryz.prog.follows .mixedOrders = true := by kernel_rfl
def badZ (f : FuncId) : Bool := Nat.beq f 164 || Nat.beq f 167 || Nat.beq f 171 || Nat.beq f 191 || Nat.beq f 206
def okZ (f : FuncId) : Bool := Nat.blt 1 f && Nat.blt f 210 && !badZ f
theorem okZ_all : (List.range 210).all (fun f => !okZ f || okB Tryz.prog f) = true := by kernel_rfl
theorem okZ_enters (f : FuncId) (h : okZ f = true) : Enters Tryz.prog f := by
  have hlt : f < 210 := by
    have h0 := h
    simp only [okZ, Bool.and_eq_true] at h0
    have h2 := h0.1.2
    simpa [Nat.blt, Nat.lt_iff_add_one_le] using h2
  have := List.all_eq_true.1 okZ_all f (List.mem_range.2 hlt)
  simp only [h, Bool.not_true, Bool.false_or] at this
  exact enters_okB this
theorem info181 : (Tryz.prog.info? (Tryz.lays160_ren.t 116)).map (fun i => (i.zero, i.size)) = some (some (.agg (Array.replicate 256 (.bool false))), 256) := by kernel_rfl
def emp : Tab := ⟨[], [], []⟩
theorem emp_ok {P : Program} (L : Env) : TabOK P L emp := ⟨⟨fun e he => by simp [emp] at he, fun e he => by simp [emp] at he⟩, fun e he => by simp [emp] at he⟩

def ext0 : FuncId → Option Spec
  | 114 => some trimSpec
  | 138 => some cmpSpec
  | _ => none
theorem trimZ : SpecOK Tryz.prog 114 trimSpec := trim_ok (okZ_enters 114 rfl) (fun s c w h1 h2 h3 => Any.strings_Trim_laid Tryz.lays160 info181 s c w h1 h2 h3)
theorem cmpZ : SpecOK Tryz.prog 138 cmpSpec := cmp_ok (okZ_enters 138 rfl) (fun a b w => Tryz.strings_Compare a b w)
theorem ext0_ok : ∀ f s, ext0 f = some s → SpecOK Tryz.prog f s := by
  intro f s h
  unfold ext0 at h
  split at h
  · cases h; exact trimZ
  · cases h; exact cmpZ
  · cases h
theorem cf0_ok (n : Nat) (L : Env) : CallOK Tryz.prog L (full Tryz.prog emp okZ ext0 n) := full_ok mixedZ (emp_ok L) ext0_ok okZ_enters n

def printedL : List UInt8 := [33,34,35,36,37,38,39,40,41,42,43,44,45,46,47,48,49,50,51,52,53,54,55,56,57,58,59,60,61,62,63,64,65,66,67,68,69,70,71,72,73,74,75,76,77,78,79,80,81,82,83,84,85,86,87,88,89,90,91,92,93,94,95,96,97,98,99,100,101,102,103,104,105,106,107,108,109,110,111,112,113,114,115,116,117,118,119,120,121,122,123,124,125,126]
theorem printed_is : full Tryz.prog emp okZ ext0 98 115 [] [] = some (.str printedL, []) := by kernel_rfl
def ext1 : FuncId → Option Spec
  | 114 => some trimSpec
  | 115 => some (memo [] (.str printedL))
  | 138 => some cmpSpec
  | _ => none
theorem printedZ : SpecOK Tryz.prog 115 (memo [] (.str printedL)) := memo_ok (cf0_ok 98) printed_is
theorem ext1_ok : ∀ f s, ext1 f = some s → SpecOK Tryz.prog f s := by
  intro f s h
  unfold ext1 at h
  split at h
  · cases h; exact trimZ
  · cases h; exact printedZ
  · cases h; exact cmpZ
  · cases h
theorem cf1_ok (n : Nat) (L : Env) : CallOK Tryz.prog L (full Tryz.prog emp okZ ext1 n) := full_ok mixedZ (emp_ok L) ext1_ok okZ_enters n
theorem awake20_is : full Tryz.prog emp okZ ext1 40 26 [] [] = some (.bool true, []) := by kernel_rfl
def ext2 : FuncId → Option Spec
  | 26 => some (memo [] (.bool true))
  | 114 => some trimSpec
  | 115 => some (memo [] (.str printedL))
  | 138 => some cmpSpec
  | _ => none
theorem awake20Z : SpecOK Tryz.prog 26 (memo [] (.bool true)) := memo_ok (cf1_ok 40) awake20_is
theorem ext2_ok : ∀ f s, ext2 f = some s → SpecOK Tryz.prog f s := by
  intro f s h
  unfold ext2 at h
  split at h
  · cases h; exact awake20Z
  · cases h; exact trimZ
  · cases h; exact printedZ
  · cases h; exact cmpZ
  · cases h

/-- Nothing is said of any function. -/
def sp0 : Sps := ⟨fun _ _ _ => none, fun _ _ _ => none⟩
theorem sp0_ok {P : Program} : sp0.ok P := ⟨fun f args H r H' h => by simp [sp0] at h, fun f args H r H' h => by simp [sp0, pure1] at h⟩
end Go.Proofs.BoatV
