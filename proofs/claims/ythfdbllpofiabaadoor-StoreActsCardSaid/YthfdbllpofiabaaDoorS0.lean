/- What holds at this seat: the functions entered, the library's contracts, the answers kept ('printed', 'awake'). -/
import Derived.Test.YthfdbllpofiabaaDoorV25
import Derived.Test.YthfdbllpofiabaaDoorShelf
namespace Go.Proofs.BoatV
open Go Go.Proofs Go.RowKit Go.Maps Go.Sort Go.Shelf
set_option maxRecDepth 100000

theorem mixedS : Tryd.prog.follows .mixedOrders = true := by kernel_rfl
def badS (f : FuncId) : Bool := Nat.beq f 42 || Nat.beq f 82 || Nat.beq f 91
def okS (f : FuncId) : Bool := Nat.blt 1 f && Nat.blt f 92 && !badS f
theorem okS_all : (List.range 92).all (fun f => !okS f || okB Tryd.prog f) = true := by kernel_rfl
theorem okS_enters (f : FuncId) (h : okS f = true) : Enters Tryd.prog f := by
  have hlt : f < 92 := by
    have h0 := h
    simp only [okS, Bool.and_eq_true] at h0
    have h2 := h0.1.2
    simpa [Nat.blt, Nat.lt_iff_add_one_le] using h2
  have := List.all_eq_true.1 okS_all f (List.mem_range.2 hlt)
  simp only [h, Bool.not_true, Bool.false_or] at this
  exact enters_okB this
theorem infoS : (Tryd.prog.info? (Tryd.lays160_ren.t 116)).map (fun i => (i.zero, i.size)) = some (some (.agg (Array.replicate 256 (.bool false))), 256) := by kernel_rfl
def emp : Tab := ⟨[], [], []⟩
theorem emp_ok {P : Program} (L : Env) : TabOK P L emp := ⟨⟨fun e he => by simp [emp] at he, fun e he => by simp [emp] at he⟩, fun e he => by simp [emp] at he⟩

theorem trimS : SpecOK Tryd.prog 37 trimSpec := trim_ok (okS_enters 37 rfl) (fun s c w h1 h2 h3 => Any.strings_Trim_laid Tryd.lays160 infoS s c w h1 h2 h3)
theorem cloneS : SpecOK Tryd.prog 31 cloneSpec := clone_ok (okS_enters 31 rfl) (fun b es clock w hb => AnyW.maps_Clone Tryd.clone31 b es clock w hb)
theorem sortsS (m : Nat) : AnyZ.SortsIn Tryd.prog Tryd.sorted39_ren Fence.wide m :=
  ⟨fun blk off cap ss W hH hblk hsz => callsIn_wide.2 (AnyM.slices_Sort_string Tryd.sort54 blk off cap ss W hH hblk hsz),
   fun p cap W => callsIn_wide.2 (AnyM.slices_Sort_string_none Tryd.sort54 p cap W)⟩
set_option maxHeartbeats 1000000 in
theorem sortedS : SpecOK Tryd.prog 39 (sortedSpec 55) := sorted_ok (kt := 9) Tryd.underlying9 (okS_enters 39 rfl) (fun Bm b nn D0 R w hBm hm hown hmax hbytes => by
  have hseq : SeqGives Fence.wide 2 Tryd.prog 55 #[.pointer (some ⟨Bm, 0, none⟩)] encStr (fun ss => ss.Perm (strKeys D0)) (Maps.size D0) w :=
    AnyZ.keys_gives (ρ := Tryd.keys40_ren) { Tryd.keys40 with } Fence.wide _ trivial rfl (by omega) Bm b nn D0 w hBm hm hown
  exact (callsIn_wide (n := 5)).1 (AnyZ.sorted_in Tryd.sorted39 Fence.wide 5 trivial trivial trivial trivial rfl (by omega) (sortsS _) (enters_of Tryd.func54 (by kernel_rfl) rfl) 55 #[.pointer (some ⟨Bm, 0, none⟩)] trivial (enters_of Tryd.func55 (by kernel_rfl) rfl) _ _ hmax hbytes _ hseq))

def ext0 : FuncId → Option Spec
  | 31 => some cloneSpec
  | 37 => some trimSpec
  | 39 => some (sortedSpec 55)
  | _ => none
theorem ext0_ok : ∀ f s, ext0 f = some s → SpecOK Tryd.prog f s := by
  intro f s h
  unfold ext0 at h
  split at h
  · cases h; exact cloneS
  · cases h; exact trimS
  · cases h; exact sortedS
  · cases h
theorem cf0_ok (n : Nat) (L : Env) : CallOK Tryd.prog L (full Tryd.prog emp okS ext0 n) := full_ok mixedS (emp_ok L) ext0_ok okS_enters n

def printedL : List UInt8 := [33,34,35,36,37,38,39,40,41,42,43,44,45,46,47,48,49,50,51,52,53,54,55,56,57,58,59,60,61,62,63,64,65,66,67,68,69,70,71,72,73,74,75,76,77,78,79,80,81,82,83,84,85,86,87,88,89,90,91,92,93,94,95,96,97,98,99,100,101,102,103,104,105,106,107,108,109,110,111,112,113,114,115,116,117,118,119,120,121,122,123,124,125,126]
theorem printed_is : full Tryd.prog emp okS ext0 98 38 [] [] = some (.str printedL, []) := by kernel_rfl
def ext1 : FuncId → Option Spec
  | 31 => some cloneSpec
  | 37 => some trimSpec
  | 38 => some (memo [] (.str printedL))
  | 39 => some (sortedSpec 55)
  | _ => none
theorem printedS : SpecOK Tryd.prog 38 (memo [] (.str printedL)) := memo_ok (cf0_ok 98) printed_is
theorem ext1_ok : ∀ f s, ext1 f = some s → SpecOK Tryd.prog f s := by
  intro f s h
  unfold ext1 at h
  split at h
  · cases h; exact cloneS
  · cases h; exact trimS
  · cases h; exact printedS
  · cases h; exact sortedS
  · cases h
theorem cf1_ok (n : Nat) (L : Env) : CallOK Tryd.prog L (full Tryd.prog emp okS ext1 n) := full_ok mixedS (emp_ok L) ext1_ok okS_enters n
theorem awake_is : full Tryd.prog emp okS ext1 40 10 [] [] = some (.bool true, []) := by kernel_rfl
theorem awakeS : SpecOK Tryd.prog 10 (memo [] (.bool true)) := memo_ok (cf1_ok 40) awake_is
def ext2 : FuncId → Option Spec
  | 10 => some (memo [] (.bool true))
  | 31 => some cloneSpec
  | 37 => some trimSpec
  | 38 => some (memo [] (.str printedL))
  | 39 => some (sortedSpec 55)
  | _ => none
theorem ext2_ok : ∀ f s, ext2 f = some s → SpecOK Tryd.prog f s := by
  intro f s h
  unfold ext2 at h
  split at h
  · cases h; exact awakeS
  · cases h; exact cloneS
  · cases h; exact trimS
  · cases h; exact printedS
  · cases h; exact sortedS
  · cases h

/-- Nothing is said of any function. -/
def sp0 : Sps := ⟨fun _ _ _ => none, fun _ _ _ => none⟩
theorem sp0_ok {P : Program} : sp0.ok P := ⟨fun f args H r H' h => by simp [sp0] at h, fun f args H r H' h => by simp [sp0, pure1] at h⟩
end Go.Proofs.BoatV
