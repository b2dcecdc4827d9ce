/- What holds at this seat: the functions entered, the library's contracts, the answers kept ('printed', 'awake'). -/
import Derived.Test.YtijaopmlldhbbaaDoorE16
import Derived.Test.YtijaopmlldhbbaaDoorShelf
namespace Go.Proofs.BoatE
open Go Go.Proofs
set_option maxRecDepth 100000

theorem mixedD : Tryd.prog.follows .mixedOrders = true := by kernel_rfl
def okE (f : FuncId) : Bool := Nat.blt 2 f && Nat.blt f 95 && !Nat.beq f 80 && !Nat.beq f 91
theorem okE_all : (List.range 95).all (fun f => !okE f || okB Tryd.prog f) = true := by kernel_rfl
theorem okE_enters (f : FuncId) (h : okE f = true) : Enters Tryd.prog f := by
  have hlt : f < 95 := by
    have h0 := h
    simp only [okE, Bool.and_eq_true] at h0
    have h2 := h0.1.1.2
    simpa [Nat.blt, Nat.lt_iff_add_one_le] using h2
  have := List.all_eq_true.1 okE_all f (List.mem_range.2 hlt)
  simp only [h, Bool.not_true, Bool.false_or] at this
  exact enters_okB this
theorem info112 : (Tryd.prog.info? (Tryd.lays160_ren.t 116)).map (fun i => (i.zero, i.size)) = some (some (.agg (Array.replicate 256 (.bool false))), 256) := by kernel_rfl

def ext0 : FuncId → Option (List AV → Heap → Option (AV × Heap))
  | 39 => some trimSpec
  | 49 => some cmpSpec
  | _ => none
theorem trimD : SpecOK Tryd.prog 39 trimSpec := trim_ok (okE_enters 39 rfl) (fun s c w h1 h2 h3 => Any.strings_Trim_laid Tryd.lays160 info112 s c w h1 h2 h3)
theorem cmpD : SpecOK Tryd.prog 49 cmpSpec := cmp_ok (okE_enters 49 rfl) (fun a b w => Tryd.strings_Compare a b w)
theorem ext0_ok : ∀ f s, ext0 f = some s → SpecOK Tryd.prog f s := by
  intro f s h
  unfold ext0 at h
  split at h
  · cases h; exact trimD
  · cases h; exact cmpD
  · cases h
theorem cf0_ok (n : Nat) : CallOK Tryd.prog (full Tryd.prog okE ext0 n) := full_ok mixedD ext0_ok okE_enters n

def printedL : List UInt8 := [33,34,35,36,37,38,39,40,41,42,43,44,45,46,47,48,49,50,51,52,53,54,55,56,57,58,59,60,61,62,63,64,65,66,67,68,69,70,71,72,73,74,75,76,77,78,79,80,81,82,83,84,85,86,87,88,89,90,91,92,93,94,95,96,97,98,99,100,101,102,103,104,105,106,107,108,109,110,111,112,113,114,115,116,117,118,119,120,121,122,123,124,125,126]
theorem printed_is : full Tryd.prog okE ext0 98 40 [] [] = some (.str printedL, []) := by kernel_rfl

def ext1 : FuncId → Option (List AV → Heap → Option (AV × Heap))
  | 39 => some trimSpec
  | 40 => some (memo [] (.str printedL))
  | 49 => some cmpSpec
  | _ => none
theorem printedD : SpecOK Tryd.prog 40 (memo [] (.str printedL)) := memo_ok (cf0_ok 98) printed_is
theorem ext1_ok : ∀ f s, ext1 f = some s → SpecOK Tryd.prog f s := by
  intro f s h
  unfold ext1 at h
  split at h
  · cases h; exact trimD
  · cases h; exact printedD
  · cases h; exact cmpD
  · cases h
theorem cf1_ok (n : Nat) : CallOK Tryd.prog (full Tryd.prog okE ext1 n) := full_ok mixedD ext1_ok okE_enters n
theorem awake_is : full Tryd.prog okE ext1 30 7 [] [] = some (.bool true, []) := by kernel_rfl

def ext2 : FuncId → Option (List AV → Heap → Option (AV × Heap))
  | 7 => some (memo [] (.bool true))
  | 39 => some trimSpec
  | 40 => some (memo [] (.str printedL))
  | 49 => some cmpSpec
  | _ => none
theorem awakeD : SpecOK Tryd.prog 7 (memo [] (.bool true)) := memo_ok (cf1_ok 30) awake_is
theorem ext2_ok : ∀ f s, ext2 f = some s → SpecOK Tryd.prog f s := by
  intro f s h
  unfold ext2 at h
  split at h
  · cases h; exact awakeD
  · cases h; exact trimD
  · cases h; exact printedD
  · cases h; exact cmpD
  · cases h
theorem cf2_ok (n : Nat) : CallOK Tryd.prog (full Tryd.prog okE ext2 n) := full_ok mixedD ext2_ok okE_enters n

def isTrue (x : Option (AV × Heap)) : Bool := match x with
  | some (.bool true, _) => true
  | _ => false
theorem isTrue_spec {x : Option (AV × Heap)} (h : isTrue x = true) : ∃ H, x = some (.bool true, H) := by
  unfold isTrue at h
  split at h
  · exact ⟨_, rfl⟩
  · cases h

end Go.Proofs.BoatE
