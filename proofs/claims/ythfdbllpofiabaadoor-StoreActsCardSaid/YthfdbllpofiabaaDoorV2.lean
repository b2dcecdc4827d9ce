/- The evaluator: what an operation, a region, a piece of code, a call comes to, as plain functions. -/
import Derived.Test.YthfdbllpofiabaaDoorV1
namespace Go.Proofs.BoatV
open Go
set_option linter.unusedVariables false

/-! ### Equality of values, as a Bool -/
mutual
def AV.beq : AV → AV → Bool
  | .undef, .undef => true
  | .bool a, .bool b => a == b
  | .int k a, .int j b => k == j && a == b
  | .str a, .str b => a == b
  | .nilp, .nilp => true
  | .ptr i o, .ptr j p => i == j && o == p
  | .ip a, .ip b => beqL a b
  | .snil, .snil => true
  | .e0, .e0 => true
  | .sl i o l s c, .sl j p m t d => i == j && o == p && l == m && s == t && c == d
  | .im a s, .im b t => beqLL a b && s == t
  | .fn f a, .fn g b => f == g && beqL a b
  | .nilf, .nilf => true
  | .mapv i, .mapv j => i == j
  | .chv i, .chv j => i == j
  | .agg a, .agg b => beqL a b
  | .tup a, .tup b => beqL a b
  | .hid t s a, .hid u r b => t == u && s == r && a == b
  | .top, .top => true
  | _, _ => false
def beqL : List AV → List AV → Bool
  | [], [] => true
  | x :: xs, y :: ys => x.beq y && beqL xs ys
  | _, _ => false
def beqLL : List (List AV) → List (List AV) → Bool
  | [], [] => true
  | x :: xs, y :: ys => beqL x y && beqLL xs ys
  | _, _ => false
end

def beqE : List (AV × AV) → List (AV × AV) → Bool
  | [], [] => true
  | (a, b) :: xs, (c, d) :: ys => a.beq c && b.beq d && beqE xs ys
  | _, _ => false
def AO.beq : AO → AO → Bool
  | .dead, .dead => true
  | .row a, .row b => beqL a b
  | .map a, .map b => beqE a b
  | .chan c a, .chan d b => c == d && beqL a b
  | .hid t a, .hid u b => t == u && a == b
  | _, _ => false
def beqH : Heap → Heap → Bool
  | [], [] => true
  | x :: xs, y :: ys => x.beq y && beqH xs ys
  | _, _ => false

mutual
theorem AV.beq_eq : ∀ a b : AV, a.beq b = true → a = b
  | .undef, b, h => by cases b <;> simp_all [AV.beq]
  | .bool x, b, h => by cases b <;> simp_all [AV.beq]
  | .int k x, b, h => by cases b <;> simp_all [AV.beq]
  | .str x, b, h => by cases b <;> simp_all [AV.beq]
  | .nilp, b, h => by cases b <;> simp_all [AV.beq]
  | .ptr i o, b, h => by cases b <;> simp_all [AV.beq]
  | .ip x, b, h => by cases b <;> simp_all [AV.beq] <;> exact beqL_eq _ _ h
  | .snil, b, h => by cases b <;> simp_all [AV.beq]
  | .e0, b, h => by cases b <;> simp_all [AV.beq]
  | .sl i o l s c, b, h => by cases b <;> simp_all [AV.beq]
  | .im x s, b, h => by cases b <;> simp_all [AV.beq] <;> exact beqLL_eq _ _ h.1
  | .fn f x, b, h => by cases b <;> simp_all [AV.beq] <;> exact beqL_eq _ _ h.2
  | .nilf, b, h => by cases b <;> simp_all [AV.beq]
  | .mapv i, b, h => by cases b <;> simp_all [AV.beq]
  | .chv i, b, h => by cases b <;> simp_all [AV.beq]
  | .agg x, b, h => by cases b <;> simp_all [AV.beq] <;> exact beqL_eq _ _ h
  | .tup x, b, h => by cases b <;> simp_all [AV.beq] <;> exact beqL_eq _ _ h
  | .hid t s x, b, h => by cases b <;> simp_all [AV.beq]
  | .top, b, h => by cases b <;> simp_all [AV.beq]
theorem beqL_eq : ∀ a b : List AV, beqL a b = true → a = b
  | [], b, h => by cases b <;> simp_all [beqL]
  | x :: xs, b, h => by
    cases b with
    | nil => simp [beqL] at h
    | cons y ys => simp [beqL] at h; rw [AV.beq_eq _ _ h.1, beqL_eq _ _ h.2]
theorem beqLL_eq : ∀ a b : List (List AV), beqLL a b = true → a = b
  | [], b, h => by cases b <;> simp_all [beqLL]
  | x :: xs, b, h => by
    cases b with
    | nil => simp [beqLL] at h
    | cons y ys => simp [beqLL] at h; rw [beqL_eq _ _ h.1, beqLL_eq _ _ h.2]
end
theorem beqE_eq : ∀ a b : List (AV × AV), beqE a b = true → a = b
  | [], b, h => by cases b <;> simp_all [beqE]
  | (x, z) :: xs, b, h => by
    cases b with
    | nil => simp [beqE] at h
    | cons y ys => obtain ⟨y1, y2⟩ := y; simp [beqE] at h; rw [AV.beq_eq _ _ h.1.1, AV.beq_eq _ _ h.1.2, beqE_eq _ _ h.2]
theorem AO.beq_eq (a b : AO) (h : a.beq b = true) : a = b := by
  cases a <;> cases b <;> simp_all [AO.beq]
  · exact beqL_eq _ _ h
  · exact beqE_eq _ _ h
  · exact beqL_eq _ _ h.2
theorem beqH_eq : ∀ a b : Heap, beqH a b = true → a = b
  | [], b, h => by cases b <;> simp_all [beqH]
  | x :: xs, b, h => by
    cases b with
    | nil => simp [beqH] at h
    | cons y ys => simp [beqH] at h; rw [AO.beq_eq _ _ h.1, beqH_eq _ _ h.2]

/-! ### Laying values out, so that the kernel goes on from what is worked out -/
def fNat {R : Type} (n : Nat) (K : Nat → R) : R := match n with | 0 => K 0 | m + 1 => K (m + 1)
theorem fNat_eq {R : Type} (n : Nat) (K : Nat → R) : fNat n K = K n := by cases n <;> rfl
def fInt {R : Type} (n : Int) (K : Int → R) : R := match n with
  | .ofNat m => fNat m fun m => K (.ofNat m)
  | .negSucc m => fNat m fun m => K (.negSucc m)
theorem fInt_eq {R : Type} (n : Int) (K : Int → R) : fInt n K = K n := by cases n <;> simp [fInt, fNat_eq]
def fBool {R : Type} (b : Bool) (K : Bool → R) : R := match b with | true => K true | false => K false
theorem fBool_eq {R : Type} (b : Bool) (K : Bool → R) : fBool b K = K b := by cases b <;> rfl
def fKind {R : Type} (k : IntKind) (K : IntKind → R) : R := match k with
  | .i8 => K .i8 | .i16 => K .i16 | .i32 => K .i32 | .i64 => K .i64 | .u8 => K .u8 | .u16 => K .u16 | .u32 => K .u32 | .u64 => K .u64
theorem fKind_eq {R : Type} (k : IntKind) (K : IntKind → R) : fKind k K = K k := by cases k <;> rfl
def fByte {R : Type} (c : UInt8) (K : UInt8 → R) : R := fNat c.toNat fun n => K (UInt8.ofNat n)
theorem fByte_eq {R : Type} (c : UInt8) (K : UInt8 → R) : fByte c K = K c := by simp [fByte, fNat_eq]
def fBytes {R : Type} (l : List UInt8) (K : List UInt8 → R) : R := match l with
  | [] => K []
  | c :: r => fByte c fun c => fBytes r fun r => K (c :: r)
theorem fBytes_eq {R : Type} : ∀ (l : List UInt8) (K : List UInt8 → R), fBytes l K = K l
  | [], K => rfl
  | c :: r, K => by simp [fBytes, fByte_eq, fBytes_eq r]
def fNats {R : Type} (l : List Nat) (K : List Nat → R) : R := match l with
  | [] => K []
  | n :: r => fNat n fun n => fNats r fun r => K (n :: r)
theorem fNats_eq {R : Type} : ∀ (l : List Nat) (K : List Nat → R), fNats l K = K l
  | [], K => rfl
  | n :: r, K => by simp [fNats, fNat_eq, fNats_eq r]
def fONat {R : Type} (o : Option Nat) (K : Option Nat → R) : R := match o with | none => K none | some n => fNat n fun n => K (some n)
theorem fONat_eq {R : Type} (o : Option Nat) (K : Option Nat → R) : fONat o K = K o := by cases o <;> simp [fONat, fNat_eq]

mutual
def fV {R : Type} (v : AV) (K : AV → R) : R := match v with
  | .undef => K .undef
  | .bool b => fBool b fun b => K (.bool b)
  | .int k n => fKind k fun k => fInt n fun n => K (.int k n)
  | .str l => fBytes l fun l => K (.str l)
  | .nilp => K .nilp
  | .ptr i off => fNat i fun i => fNat off fun off => K (.ptr i off)
  | .ip cells => K (.ip cells)
  | .snil => K .snil
  | .e0 => K .e0
  | .sl i off len sz cap => fNat i fun i => fNat off fun off => fNat len fun len => fNat sz fun sz => fONat cap fun cap => K (.sl i off len sz cap)
  | .im rows sz => K (.im rows sz)
  | .fn f caps => fNat f fun f => fL caps fun caps => K (.fn f caps)
  | .nilf => K .nilf
  | .mapv i => fNat i fun i => K (.mapv i)
  | .chv i => fNat i fun i => K (.chv i)
  | .agg cs => fL cs fun cs => K (.agg cs)
  | .tup vs => fL vs fun vs => K (.tup vs)
  | .hid t sc ids => fNat t fun t => fBool sc fun sc => fNats ids fun ids => K (.hid t sc ids)
  | .top => K .top
def fL {R : Type} (l : List AV) (K : List AV → R) : R := match l with
  | [] => K []
  | v :: vs => fV v fun v => fL vs fun vs => K (v :: vs)
end
mutual
theorem fV_eq {R : Type} : ∀ (v : AV) (K : AV → R), fV v K = K v
  | .undef, K => rfl
  | .bool b, K => by simp [fV, fBool_eq]
  | .int k n, K => by simp [fV, fKind_eq, fInt_eq]
  | .str l, K => by simp [fV, fBytes_eq]
  | .nilp, K => rfl
  | .ptr i off, K => by simp [fV, fNat_eq]
  | .ip cells, K => rfl
  | .snil, K => rfl
  | .e0, K => rfl
  | .sl i off len sz cap, K => by simp [fV, fNat_eq, fONat_eq]
  | .im rows sz, K => rfl
  | .fn f caps, K => by simp [fV, fNat_eq, fL_eq caps]
  | .nilf, K => rfl
  | .mapv i, K => by simp [fV, fNat_eq]
  | .chv i, K => by simp [fV, fNat_eq]
  | .agg cs, K => by simp [fV, fL_eq cs]
  | .tup vs, K => by simp [fV, fL_eq vs]
  | .hid t sc ids, K => by simp [fV, fNat_eq, fBool_eq, fNats_eq]
  | .top, K => rfl
theorem fL_eq {R : Type} : ∀ (l : List AV) (K : List AV → R), fL l K = K l
  | [], K => rfl
  | v :: vs, K => by simp [fL, fV_eq v, fL_eq vs]
end
def fE {R : Type} (l : List (AV × AV)) (K : List (AV × AV) → R) : R := match l with
  | [] => K []
  | (a, b) :: r => fV a fun a => fV b fun b => fE r fun r => K ((a, b) :: r)
theorem fE_eq {R : Type} : ∀ (l : List (AV × AV)) (K : List (AV × AV) → R), fE l K = K l
  | [], K => rfl
  | (a, b) :: r, K => by simp [fE, fV_eq, fE_eq r]
def fO {R : Type} (o : AO) (K : AO → R) : R := match o with
  | .dead => K .dead
  | .row cs => fL cs fun cs => K (.row cs)
  | .map es => fE es fun es => K (.map es)
  | .chan cap buf => fNat cap fun cap => fL buf fun buf => K (.chan cap buf)
  | .hid t ids => fNat t fun t => fNats ids fun ids => K (.hid t ids)
theorem fO_eq {R : Type} (o : AO) (K : AO → R) : fO o K = K o := by cases o <;> simp [fO, fL_eq, fE_eq, fNat_eq, fNats_eq]
def fH {R : Type} (l : Heap) (K : Heap → R) : R := match l with
  | [] => K []
  | o :: r => fO o fun o => fH r fun r => K (o :: r)
theorem fH_eq {R : Type} : ∀ (l : Heap) (K : Heap → R), fH l K = K l
  | [], K => rfl
  | o :: r, K => by simp [fH, fO_eq, fH_eq r]

/-! ### Constants, operands, cells -/
def ofV1 : Value → Option AV
  | .bool b => some (.bool b)
  | .int k n => some (.int k n)
  | .string s => some (.str s.data.toList)
  | .pointer none => some .nilp
  | .slice none 0 0 => some .snil
  | .nilFunc => some .nilf
  | _ => none
def ofVL : List Value → Option (List AV)
  | [] => some []
  | v :: vs => match ofVL vs with
    | some l => some ((match ofV1 v with
      | some a => a
      | none => .top) :: l)
    | none => none
def ofV : Value → Option AV
  | .agg cs => (ofVL cs.toList).map .agg
  | v => ofV1 v

/-! ### Frames: rows of eight slots -/
def fget (fr : Fr) (t : Nat) : AV := (fr.getD (Nat.div t 8) []).getD (Nat.mod t 8) .undef
def chunkSet {R : Type} : List AV → Nat → AV → (List AV → R) → R
  | [], _, _, K => K []
  | _ :: xs, 0, v, K => K (v :: xs)
  | x :: xs, d + 1, v, K => chunkSet xs d v fun xs => K (x :: xs)
def rowsSet {R : Type} : Fr → Nat → Nat → AV → (Fr → R) → R
  | [], _, _, _, K => K []
  | c :: cs, 0, e, v, K => chunkSet c e v fun c => K (c :: cs)
  | c :: cs, d + 1, e, v, K => rowsSet cs d e v fun cs => K (c :: cs)
def fput {R : Type} (fr : Fr) (dst : Option Tmp) (v : AV) (K : Fr → R) : R := match dst with
  | some d => rowsSet fr (Nat.div d 8) (Nat.mod d 8) v K
  | none => K fr
def putF (fr : Fr) (dst : Option Tmp) (v : AV) : Fr := match dst with
  | some d => fr.set (Nat.div d 8) ((fr.getD (Nat.div d 8) []).set (Nat.mod d 8) v)
  | none => fr
theorem chunkSet_eq {R : Type} : ∀ (l : List AV) (d : Nat) (v : AV) (K : List AV → R), chunkSet l d v K = K (l.set d v)
  | [], d, v, K => by simp [chunkSet]
  | x :: xs, 0, v, K => rfl
  | x :: xs, d + 1, v, K => by simp [chunkSet, chunkSet_eq xs]
theorem rowsSet_eq {R : Type} : ∀ (fr : Fr) (d e : Nat) (v : AV) (K : Fr → R), rowsSet fr d e v K = K (fr.set d ((fr.getD d []).set e v))
  | [], d, e, v, K => by simp [rowsSet]
  | c :: cs, 0, e, v, K => by simp [rowsSet, chunkSet_eq]
  | c :: cs, d + 1, e, v, K => by simp [rowsSet, rowsSet_eq cs]
theorem fput_eq {R : Type} (fr : Fr) (dst : Option Tmp) (v : AV) (K : Fr → R) : fput fr dst v K = K (putF fr dst v) := by
  cases dst <;> simp [fput, putF, rowsSet_eq]
/-- A list in rows of eight. -/
def chunks : List AV → Fr
  | a :: b :: c :: d :: e :: f :: g :: h :: r => [a, b, c, d, e, f, g, h] :: chunks r
  | [] => []
  | l => [l]
def renF (σ : Nat → Option Nat) : Fr → Option Fr
  | [] => some []
  | c :: cs => match renL σ c, renF σ cs with
    | some c', some cs' => some (c' :: cs')
    | _, _ => none
def idsF : Fr → List Nat → List Nat
  | [], acc => acc
  | c :: cs, acc => idsL c (idsF cs acc)
def fF {R : Type} (l : Fr) (K : Fr → R) : R := match l with
  | [] => K []
  | c :: r => fL c fun c => fF r fun r => K (c :: r)
theorem fF_eq {R : Type} : ∀ (l : Fr) (K : Fr → R), fF l K = K l
  | [], K => rfl
  | c :: r, K => by simp [fF, fL_eq, fF_eq r]

def opd (fr : Fr) : Operand → Option AV
  | .tmp t => match fget fr t with
    | .top => none
    | v => some v
  | .const v => ofV v
  | .func f => some (.fn f [])
  | .global _ => none
def opds (fr : Fr) : List Operand → Option (List AV)
  | [] => some []
  | x :: xs => match opd fr x, opds fr xs with
    | some a, some l => some (a :: l)
    | _, _ => none

def AV.cells : AV → List AV
  | .agg cs => cs
  | v => [v]
def allOne : List AV → Bool
  | [] => true
  | v :: vs => v.one && allOne vs

def szOf (P : Program) (t : TypeId) : Option Nat := (P.info? t).map (·.size)
def aggOf (P : Program) (t : TypeId) : Option Bool := (P.underlying t).map fun
  | .struct _ | .array _ _ => true
  | _ => false
def zeroOf (P : Program) (t : TypeId) : Option AV := ((P.info? t).bind (·.zero)).bind ofV
def bytesOf (P : Program) (t : TypeId) : Option Nat := (P.info? t).map (·.bytes)

/-- A variable of type t whose cells stand at the head of a list. -/
def loadA (P : Program) (t : TypeId) (cells : List AV) : Option AV :=
  match aggOf P t with
  | some true => match szOf P t with
    | some n => if n ≤ cells.length then some (.agg (cells.take n)) else none
    | none => none
  | some false => cells.head?
  | none => none

def rowAt (H : Heap) (i : Nat) : Option (List AV) := match H[i]? with
  | some (.row cs) => some cs
  | _ => none
def chanAt (H : Heap) (i : Nat) : Option (Nat × List AV) := match H[i]? with
  | some (.chan cap buf) => some (cap, buf)
  | _ => none
def mapAt (H : Heap) (i : Nat) : Option (List (AV × AV)) := match H[i]? with
  | some (.map es) => some es
  | _ => none

def setAt : List AV → Nat → List AV → Option (List AV)
  | cs, 0, [] => some cs
  | _ :: cs, 0, v :: vs => (setAt cs 0 vs).map (v :: ·)
  | c :: cs, n + 1, vs => (setAt cs n vs).map (c :: ·)
  | [], _, _ => none

def storeAt (H : Heap) (i off : Nat) (vs : List AV) : Option Heap := match rowAt H i with
  | some cs => if allOne vs then (setAt cs off vs).map fun cs' => H.set i (.row cs') else none
  | none => none

/-- Part of a struct or an array. -/
def partA (P : Program) (t : TypeId) (cs : List AV) (off : Nat) : Option AV := loadA P t (cs.drop off)

def fieldOf (P : Program) (s : TypeId) (f : Nat) : Option Field := match P.underlying s with
  | some (.struct fs) => fs[f]?
  | _ => none

/-! ### What is known beforehand of operations on named values, and of calls -/
inductive Key where
  | bin (op : BinOp)
  | eqI | eqS | eqB
  | idB
  | un (op : UnOp)
  | conv (k : IntKind)
  | idS
  | idxS
  | idxA (sz : Nat)
  | lenS
  | lenA
  | slc (sz : Option Nat) (lo hi mx : Bool)
  | mx
  | fadr (off : Nat)
  deriving DecidableEq
structure TE where
  key : Key
  args : List AV
  res : AV
structure CE where
  f : FuncId
  args : List AV
  H : Heap
  res : AV
  H' : Heap
/-- Operations that look at named memory. -/
inductive HKey where
  | look (str : Bool) (z : AV) (ok : Bool)
  | upd (str : Bool)
  | del (str : Bool)
  | mlen
  | app (sz bytes : Nat)
  | load (n : Option Nat)
  | stor (n : Nat)
  | toS
  | mk (bytes : Nat) (z : List AV)
structure HE where
  key : HKey
  args : List AV
  H : Heap
  res : AV
  H' : Heap
structure Tab where
  ops : List TE
  calls : List CE
  hops : List HE
def findT (k : Key) (args : List AV) : List TE → Option AV
  | [] => none
  | e :: r => if k = e.key then (match beqL args e.args with
    | true => some e.res
    | false => findT k args r) else findT k args r
def findC (f : FuncId) (args : List AV) (H : Heap) : List CE → Option (AV × Heap)
  | [] => none
  | e :: r => match Nat.beq f e.f && beqL args e.args && beqH H e.H with
    | true => some (e.res, e.H')
    | false => findC f args H r
def HKey.beq : HKey → HKey → Bool
  | .look a z o, .look b y p => a == b && z.beq y && o == p
  | .upd a, .upd b => a == b
  | .del a, .del b => a == b
  | .mlen, .mlen => true
  | .app a b, .app c d => a == c && b == d
  | .load a, .load b => a == b
  | .stor a, .stor b => a == b
  | .toS, .toS => true
  | .mk a z, .mk b y => a == b && beqL z y
  | _, _ => false
theorem HKey.beq_eq (a b : HKey) (h : a.beq b = true) : a = b := by
  cases a <;> cases b <;> simp_all [HKey.beq]
  · exact AV.beq_eq _ _ h.1.2
  · exact beqL_eq _ _ h.2
def findH (k : HKey) (args : List AV) (H : Heap) : List HE → Option (AV × Heap)
  | [] => none
  | e :: r => match k.beq e.key && beqL args e.args && beqH H e.H with
    | true => some (e.res, e.H')
    | false => findH k args H r
def findB (T : Tab) (k : Key) (args : List AV) : Option Bool := match findT k args T.ops with
  | some (.bool b) => some b
  | _ => none
def truthT (T : Tab) : Option AV → Option Bool
  | some (.bool b) => some b
  | some (.hid t sc ids) => findB T .idB [.hid t sc ids]
  | _ => none

/-! What the operations come to, of values that bear no names: no program in sight. -/
def intK (op : BinOp) (k : IntKind) (a b : Int) : Option AV := match op with
  | .add => some (.int k (k.wrap (a + b)))
  | .sub => some (.int k (k.wrap (a - b)))
  | .mul => some (.int k (k.wrap (a * b)))
  | .quo => if b = 0 then none else some (.int k (k.wrap (a.tdiv b)))
  | .rem => if b = 0 then none else some (.int k (a.tmod b))
  | .and => some (.int k (k.wrap (BitVec.ofInt k.bits a &&& BitVec.ofInt k.bits b).toNat))
  | .or => some (.int k (k.wrap (BitVec.ofInt k.bits a ||| BitVec.ofInt k.bits b).toNat))
  | .xor => some (.int k (k.wrap (BitVec.ofInt k.bits a ^^^ BitVec.ofInt k.bits b).toNat))
  | .eql => some (.bool (a == b))
  | .neq => some (.bool (a != b))
  | .lss => some (.bool (decide (a < b)))
  | .leq => some (.bool (decide (a ≤ b)))
  | .gtr => some (.bool (decide (a > b)))
  | .geq => some (.bool (decide (a ≥ b)))
  | .shr => if b < 0 then none else some (.int k (a.fdiv (2 ^ (min b.toNat k.bits))))
  | .shl => if b < 0 then none else some (.int k (k.wrap (a * 2 ^ (min b.toNat k.bits))))
  | .andNot => some (.int k (k.wrap (BitVec.ofInt k.bits a &&& ~~~ BitVec.ofInt k.bits b).toNat))
/-- Shifts take a count of another kind. -/
def shK (op : BinOp) (k : IntKind) (a b : Int) : Option AV := match op with
  | .shl | .shr => intK op k a b
  | _ => none

/-! ### Operators -/
def pureRun {α : Type} (P : Program) : Sem α → Option α
  | .pure a => some a
  | .program k => pureRun P (k P)
  | .mark _ k => pureRun P k
  | _ => none

def eqFs (P : Program) (eq : TypeId → AV → AV → Option Bool) : List Field → List AV → List AV → Option Bool
  | [], _, _ => some true
  | f :: fs, xs, ys =>
    if f.name ≠ "_" then
      match partA P f.type xs f.offset, partA P f.type ys f.offset with
      | some a, some b => match eq f.type a b with
        | some true => eqFs P eq fs xs ys
        | some false => some false
        | none => none
      | _, _ => none
    else eqFs P eq fs xs ys
def eqA (P : Program) (T : Tab) : Nat → TypeId → AV → AV → Option Bool
  | 0, _, _, _ => none
  | d + 1, t, x, y =>
    match P.underlying t with
    | some .bool => match x, y with | .bool a, .bool b => some (a == b) | _, _ => findB T .eqB [x, y]
    | some (.int _) => match x, y with
      | .int k a, .int k' b => if k = k' then some (a == b) else none
      | _, _ => findB T .eqI [x, y]
    | some .string => match x, y with | .str a, .str b => some (a == b) | _, _ => findB T .eqS [x, y]
    | some (.struct fs) => match x, y with
      | .agg xs, .agg ys => if P.stoodInHeld t then none else eqFs P (eqA P T d) fs.toList xs ys
      | _, _ => none
    | _ => none

def strOp (op : BinOp) (a b : List UInt8) : Option AV :=
  match op with
  | .add => if a.length + b.length ≤ 9223372036854775807 then some (.str (a ++ b)) else none
  | .eql => some (.bool (a == b))
  | .neq => some (.bool !(a == b))
  | .lss => some (.bool (Op.bytesLess a b))
  | .leq => some (.bool (Op.bytesLess a b || a == b))
  | .gtr => some (.bool !(Op.bytesLess a b || a == b))
  | .geq => some (.bool !(Op.bytesLess a b))
  | _ => none

def isNilA : AV → Option Bool
  | .snil => some true
  | .sl .. => some false
  | .im (_ :: _) _ => some false
  | _ => none

def isNilS : AV → Option Bool
  | .snil => some true
  | .sl _ _ _ _ _ => some false
  | .im (_ :: _) _ => some false
  | _ => none
def isNilP : AV → Option Bool
  | .nilp => some true
  | .ptr _ _ | .ip _ => some false
  | _ => none
/-- Against nil. -/
def nilA (P : Program) (op : BinOp) (t : TypeId) (x y : AV) : Option AV :=
  let r : Option Bool := match x, y with
    | x, .snil => (match P.underlying t with | some (.slice _) => isNilS x | _ => none)
    | .snil, y => (match P.underlying t with | some (.slice _) => isNilS y | _ => none)
    | x, .nilp => (match P.underlying t with | some (.pointer _) => isNilP x | _ => none)
    | _, _ => none
  match r, op with
  | some b, .eql => some (.bool b)
  | some b, .neq => some (.bool !b)
  | _, _ => none
/-- Two truths. -/
def boolT (P : Program) (T : Tab) (op : BinOp) (t : TypeId) (x y : AV) : Option AV := match P.underlying t with
  | some .bool => match findB T .eqB [x, y], op with
    | some b, .eql => some (.bool b)
    | some b, .neq => some (.bool !b)
    | _, _ => none
  | _ => none
def binA (P : Program) (T : Tab) (op : BinOp) (t : TypeId) : AV → AV → Option AV
  | .int k a, .int k' b => (pureRun P (binOp op t (.int k a) (.int k' b))).bind ofV1
  | .bool a, .bool b => (pureRun P (binOp op t (.bool a) (.bool b))).bind ofV1
  | .str a, .str b => strOp op a b
  | .agg xs, .agg ys =>
    if P.eqGuardType P.depth t then none else
    match op with
    | .eql => (eqA P T 100 t (.agg xs) (.agg ys)).map .bool
    | .neq => (eqA P T 100 t (.agg xs) (.agg ys)).map fun b => .bool !b
    | _ => none
  | x, y => match nilA P op t x y with
    | some r => some r
    | none => match boolT P T op t x y with
      | some r => some r
      | none => findT (.bin op) [x, y] T.ops

def unA (P : Program) (T : Tab) (op : UnOp) : AV → Option AV
  | .int k a => (pureRun P (Op.unary op (.int k a))).bind ofV1
  | .bool b => match op with | .not => some (.bool !b) | _ => none
  | x => findT (.un op) [x] T.ops

def bytesOfCells : List AV → Option (List UInt8)
  | [] => some []
  | .int .u8 n :: r => if 0 ≤ n ∧ n < 256 then (bytesOfCells r).map (UInt8.ofNat n.toNat :: ·) else none
  | _ => none

def convA (P : Program) (T : Tab) (H : Heap) (src dst : TypeId) : AV → Option (AV × Heap)
  | .int k a => ((pureRun P (convert src dst (.int k a))).bind ofV1).map (·, H)
  | .str l => match P.underlying src, P.underlying dst with
    | some .string, some .string => some (.str l, H)
    | _, _ => none
  | .hid t sc ids => match P.underlying src, P.underlying dst with
    | some (.int _), some (.int k) => (findT (.conv k) [.hid t sc ids] T.ops).map (·, H)
    | some .string, some .string => (findT .idS [.hid t sc ids] T.ops).map (·, H)
    | _, _ => none
  | .sl i off len sz cap => match P.underlying src, P.underlying dst with
    | some (.slice e), some .string => match P.underlying e, rowAt H i with
      | some (.int .u8), some cs => if sz = 1 ∧ len ≤ (cs.drop off).length then (bytesOfCells ((cs.drop off).take len)).map fun l => (.str l, H) else none
      | _, _ => none
    | _, _ => none
  | _ => none

/-! ### Composite values -/
def fillA (place : Nat → Option (Nat × Nat)) (cells : List AV) : List (Nat × AV) → Option (List AV)
  | [] => some cells
  | (i, v) :: rest => match place i with
    | none => none
    | some (off, size) => if v.cells.length = size then (setAt cells off v.cells).bind fun cs => fillA place cs rest else none

def partsA (fr : Fr) : List (Nat × Operand) → Option (List (Nat × AV))
  | [] => some []
  | (i, x) :: r => match opd fr x, partsA fr r with
    | some a, some l => some ((i, a) :: l)
    | _, _ => none

def placesOf (P : Program) : List Field → Option (List (Nat × Nat))
  | [] => some []
  | f :: fs => match P.info? f.type, placesOf P fs with
    | some i, some l => some ((f.offset, i.size) :: l)
    | _, _ => none

def buildA (P : Program) (t : TypeId) (parts : List (Nat × AV)) : Option AV :=
  match zeroOf P t, P.underlying t with
  | some z, some (.struct fs) => match placesOf P fs.toList with
    | some pl => (fillA (pl[·]?) z.cells parts).map .agg
    | none => none
  | some z, some (.array _ e) => match szOf P e with
    | some n => (fillA (fun i => some (i * n, n)) z.cells parts).map .agg
    | none => none
  | _, _ => none

def repeatZ (z : List AV) (n : Nat) : List AV := (List.range n).map fun i => z.getD (i % z.length) .undef

def addRow (H : Heap) (cs : List AV) : AV × Heap := (.ptr H.length 0, H ++ [.row cs])

def buildSliceA (P : Program) (H : Heap) (t : TypeId) (len : Nat) (parts : List (Nat × AV)) : Option (AV × Heap) :=
  match P.underlying t with
  | some (.slice e) => match szOf P e, zeroOf P e with
    | some n, some z =>
      if len * n ≤ 16777216 ∧ z.cells.length = n ∧ 0 < n then
        (fillA (fun i => some (i * n, n)) (repeatZ z.cells (len * n)) parts).map fun cs => (.sl H.length 0 len n (some len), H ++ [.row cs])
      else none
    | _, _ => none
  | _ => none

def makeSliceA (P : Program) (H : Heap) (t : TypeId) : AV → AV → Option (AV × Heap)
  | .int _ l, .int _ c => match P.underlying t with
    | some (.slice e) => match P.info? e, zeroOf P e with
      | some i, some z =>
        if 0 ≤ l ∧ l ≤ c ∧ c ≤ 1099511627776 ∧ i.bytes * c ≤ 140737488355328 ∧ z.cells.length = i.size ∧ 0 < i.size then
          some (.sl H.length 0 l.toNat i.size (some c.toNat), H ++ [.row (repeatZ z.cells (c.toNat * i.size))])
        else none
      | _, _ => none
    | _ => none
  | _, _ => none

def fieldAddrA (P : Program) (s : TypeId) (f : Nat) : AV → Option AV
  | .ptr i off => match fieldOf P s f with
    | some fd => match szOf P fd.type with
      | some (_ + 1) => some (.ptr i (off + fd.offset))
      | _ => none
    | none => none
  | .ip cells => match fieldOf P s f with
    | some fd => match szOf P fd.type with
      | some (_ + 1) => some (.ip (cells.drop fd.offset))
      | _ => none
    | none => none
  | _ => none

def fieldAddrT (P : Program) (T : Tab) (s : TypeId) (f : Nat) (x : AV) : Option AV := match fieldAddrA P s f x with
  | some v => some v
  | none => match fieldOf P s f with
    | some fd => match szOf P fd.type with
      | some (_ + 1) => findT (.fadr fd.offset) [x] T.ops
      | _ => none
    | none => none

def fieldA (P : Program) (s : TypeId) (f : Nat) : AV → Option AV
  | .agg cs => match fieldOf P s f with
    | some fd => partA P fd.type cs fd.offset
    | none => none
  | _ => none

def indexAddrA (P : Program) (t : TypeId) : AV → AV → Option AV
  | .sl i off len sz _, .int _ n => match P.underlying t with
    | some (.slice e) => if szOf P e = some sz ∧ 0 ≤ n ∧ n < len then some (.ptr i (off + n.toNat * sz)) else none
    | _ => none
  | .im rows sz, .int _ n => match P.underlying t with
    | some (.slice e) => if szOf P e = some sz ∧ 0 ≤ n then (rows[n.toNat]?).map .ip else none
    | _ => none
  | .ptr i off, .int _ n => match P.underlying t with
    | some (.array len e) => match szOf P e with
      | some sz => if 0 ≤ n ∧ n < len then some (.ptr i (off + n.toNat * sz)) else none
      | none => none
    | _ => none
  | _, _ => none

def indexA (P : Program) (t : TypeId) : AV → AV → Option AV
  | .str l, .int _ n => match P.underlying t with
    | some .string => if 0 ≤ n then (l[n.toNat]?).map fun b => .int .u8 b.toNat else none
    | _ => none
  | .agg cs, .int _ n => match P.underlying t with
    | some (.array len e) => match szOf P e with
      | some sz => if 0 ≤ n ∧ n < len then partA P e cs (n.toNat * sz) else none
      | none => none
    | _ => none
  | _, _ => none

def indexAddrT (P : Program) (T : Tab) (t : TypeId) (x y : AV) : Option AV := match indexAddrA P t x y with
  | some v => some v
  | none => match P.underlying t with
    | some (.slice e) => match szOf P e with
      | some sz => findT (.idxA sz) [x, y] T.ops
      | none => none
    | _ => none
def indexT (P : Program) (T : Tab) (t : TypeId) (x y : AV) : Option AV := match indexA P t x y with
  | some v => some v
  | none => match P.underlying t with
    | some .string => findT .idxS [x, y] T.ops
    | _ => none
def lenK : AV → Option AV
  | .snil | .e0 => some (.int .i64 0)
  | .sl _ _ len _ _ => some (.int .i64 len)
  | .im rows _ => some (.int .i64 rows.length)
  | _ => none

/-- A slice's bounds: what is not given is 'dflt'. -/
def boundA (dflt : Nat) : Option AV → Option Nat
  | none => some dflt
  | some (.int _ n) => if 0 ≤ n then some n.toNat else none
  | some _ => none

def sliceA (P : Program) (t : TypeId) (x : AV) (lo hi mx : Option AV) : Option AV :=
  if mx.isSome && hi.isNone then none else
  match x with
  | .str l => match P.underlying t, mx, boundA 0 lo, boundA l.length hi with
    | some .string, none, some a, some b => if a ≤ b ∧ b ≤ l.length then some (.str ((l.drop a).take (b - a))) else none
    | _, _, _, _ => none
  | .sl i off len sz cap => match P.underlying t with
    | some (.slice e) => if szOf P e = some sz then
        match boundA 0 lo, boundA len hi, mx with
        | some a, some b, none =>
          if a ≤ b ∧ (b ≤ len ∨ ∃ c, cap = some c ∧ b ≤ c) then
            if a < b then some (.sl i (off + a * sz) (b - a) sz (cap.map (· - a)))
            else if a = 0 then some (.sl i off 0 sz cap) else some (.im [] sz)
          else none
        | some a, some b, some m => match boundA 0 (some m) with
          | some m => if a ≤ b ∧ b ≤ m ∧ m ≤ len then
              (if a < m then some (.sl i (off + a * sz) (b - a) sz (some (m - a))) else some .e0)
            else none
          | none => none
        | _, _, _ => none
      else none
    | _ => none
  | .im rows sz => match P.underlying t with
    | some (.slice e) => if szOf P e = some sz then
        match boundA 0 lo, boundA rows.length hi, mx with
        | some a, some b, none => if a ≤ b ∧ b ≤ rows.length then some (.im ((rows.drop a).take (b - a)) sz) else none
        | some 0, some 0, some (.int _ 0) => some .e0
        | _, _, _ => none
      else none
    | _ => none
  | .snil => match P.underlying t with
    | some (.slice e) => match szOf P e, boundA 0 lo, boundA 0 hi, boundA 0 mx with
      | some _, some 0, some 0, some 0 => some .snil
      | _, _, _, _ => none
    | _ => none
  | .e0 => match P.underlying t with
    | some (.slice e) => match szOf P e, boundA 0 lo, boundA 0 hi, boundA 0 mx with
      | some _, some 0, some 0, some 0 => some .e0
      | _, _, _, _ => none
    | _ => none
  | _ => none

def take1 : Bool → List AV → Option (Option AV × List AV)
  | false, r => some (none, r)
  | true, a :: r => some (some a, r)
  | true, [] => none
def slcK (sz : Option Nat) (x : AV) (lo hi mx : Option AV) : Option AV := match sz, x, mx with
  | none, .str l, none => match boundA 0 lo, boundA l.length hi with
    | some a, some b => if a ≤ b ∧ b ≤ l.length then some (.str ((l.drop a).take (b - a))) else none
    | _, _ => none
  | some sz, .im rows s, none => if s = sz then
      match boundA 0 lo, boundA rows.length hi with
      | some a, some b => if a ≤ b ∧ b ≤ rows.length then some (.im ((rows.drop a).take (b - a)) sz) else none
      | _, _ => none
    else none
  | some sz, .sl i off len s cap, none => if s = sz then
      match boundA 0 lo, boundA len hi with
      | some a, some b => if a ≤ b ∧ b ≤ len then
          (if a < b then some (.sl i (off + a * sz) (b - a) sz (cap.map (· - a))) else if a = 0 then some (.sl i off 0 sz cap) else some (.im [] sz))
        else none
      | _, _ => none
    else none
  | some sz, .im rows s, some (.int _ 0) => if s = sz then
      match boundA 0 lo, boundA rows.length hi with
      | some 0, some 0 => if hi.isSome then some .e0 else none
      | _, _ => none
    else none
  | _, _, _ => none
def sliceT (P : Program) (T : Tab) (t : TypeId) (x : AV) (lo hi mx : Option AV) : Option AV := match sliceA P t x lo hi mx with
  | some v => some v
  | none => match P.underlying t with
    | some .string => findT (.slc none lo.isSome hi.isSome mx.isSome) (x :: (lo.toList ++ (hi.toList ++ mx.toList))) T.ops
    | some (.slice e) => match szOf P e with
      | some sz => findT (.slc (some sz) lo.isSome hi.isSome mx.isSome) (x :: (lo.toList ++ (hi.toList ++ mx.toList))) T.ops
      | none => none
    | _ => none

/-- An operation, of values that bear no names. -/
def opK : Key → List AV → Option AV
  | .bin op, [.int k a, .int k' b] => if k = k' then intK op k a b else shK op k a b
  | .bin op, [.str a, .str b] => strOp op a b
  | .eqI, [.int k a, .int k' b] => if k = k' then some (.bool (a == b)) else none
  | .eqS, [.str a, .str b] => some (.bool (a == b))
  | .eqB, [.bool a, .bool b] => some (.bool (a == b))
  | .conv k, [.int _ a] => some (.int k (k.wrap a))
  | .idS, [.str l] => some (.str l)
  | .idB, [.bool b] => some (.bool b)
  | .un .not, [.bool b] => some (.bool !b)
  | .idxS, [.str l, .int _ n] => if 0 ≤ n then (l[n.toNat]?).map fun b => .int .u8 b.toNat else none
  | .idxA sz, [.im rows s, .int _ n] => if s = sz ∧ 0 ≤ n then (rows[n.toNat]?).map .ip else none
  | .idxA sz, [.sl i off len s _, .int _ n] => if s = sz ∧ 0 ≤ n ∧ n < len then some (.ptr i (off + n.toNat * sz)) else none
  | .lenS, [.str l] => some (.int .i64 l.length)
  | .lenA, [x] => lenK x
  | .mx, [.int k a, .int k' b] => if k = k' then some (.int k (if b > a then b else a)) else none
  | .fadr d, [.ptr i off] => some (.ptr i (off + d))
  | .fadr d, [.ip cells] => some (.ip (cells.drop d))
  | .slc sz l h m, x :: r => match take1 l r with
    | some (lo, r) => match take1 h r with
      | some (hi, r) => match take1 m r with
        | some (mx, []) => slcK sz x lo hi mx
        | _ => none
      | none => none
    | none => none
  | _, _ => none

/-! ### Maps whose keys are numbers or texts -/
def sameKey : AV → AV → Option Bool
  | .int k a, .int k' b => if k = k' then some (a == b) else none
  | .str a, .str b => some (a == b)
  | _, _ => none
def findA (k : AV) : List (AV × AV) → Nat → Option (Option (Nat × AV))
  | [], _ => some none
  | e :: es, i => match sameKey k e.1 with
    | some true => some (some (i, e.2))
    | some false => findA k es (i + 1)
    | none => none
def keyKind (P : Program) (t : TypeId) : Bool := match P.underlying t with
  | some (.int _) | some .string => true
  | _ => false
def keyFits (P : Program) (t : TypeId) (k : AV) : Bool := match P.underlying t, k with
  | some (.int _), .int _ _ => true
  | some .string, .str _ => true
  | _, _ => false

def lookupA (P : Program) (H : Heap) (t : TypeId) (ok : Bool) : AV → AV → Option AV
  | .mapv i, k => match P.underlying t, mapAt H i with
    | some (.map kt et), some es => if keyFits P kt k then match findA k es 0 with
        | some (some (_, v)) => some (if ok then .tup [v, .bool true] else v)
        | some none => (zeroOf P et).map fun z => if ok then .tup [z, .bool false] else z
        | none => none
      else none
    | _, _ => none
  | _, _ => none

def mapUpdateA (P : Program) (H : Heap) (t : TypeId) : AV → AV → AV → Option Heap
  | .mapv i, k, v => match P.underlying t, mapAt H i with
    | some (.map kt et), some es => if keyFits P kt k then match findA k es 0 with
        | some (some (j, _)) => some (H.set i (.map (es.set j (k, v))))
        | some none => some (H.set i (.map (es ++ [(k, v)])))
        | none => none
      else none
    | _, _ => none
  | _, _, _ => none

/-! ### Builtins -/
def lenA (P : Program) (t : TypeId) (H : Heap) : AV → Option AV
  | .str l => match P.underlying t with | some .string => some (.int .i64 l.length) | _ => none
  | .snil | .e0 => match P.underlying t with | some (.slice _) => some (.int .i64 0) | _ => none
  | .sl _ _ len _ _ => match P.underlying t with | some (.slice _) => some (.int .i64 len) | _ => none
  | .im rows _ => match P.underlying t with | some (.slice _) => some (.int .i64 rows.length) | _ => none
  | .mapv i => match P.underlying t, mapAt H i with | some (.map _ _), some es => some (.int .i64 es.length) | _, _ => none
  | _ => none
def lenT (P : Program) (T : Tab) (t : TypeId) (H : Heap) (x : AV) : Option AV := match lenA P t H x with
  | some v => some v
  | none => match P.underlying t with
    | some .string => findT .lenS [x] T.ops
    | some (.slice _) => findT .lenA [x] T.ops
    | _ => none

/-- The greater of two numbers. -/
def maxT (T : Tab) (x y : AV) : Option AV := match opK .mx [x, y] with
  | some r => some r
  | none => findT .mx [x, y] T.ops

/-- The first n elements' cells of what is appended. -/
def srcCells (P : Program) (H : Heap) (sz : Nat) : AV → Option (List AV × Nat)
  | .snil | .e0 => some ([], 0)
  | .str l => if sz = 1 then some (l.map fun b => .int .u8 b.toNat, l.length) else none
  | .sl i off len s _ => match rowAt H i with
    | some cs => if s = sz ∧ off + len * sz ≤ cs.length then some ((cs.drop off).take (len * sz), len) else none
    | none => none
  | .im rows s => if s = sz then some (rows.flatten, rows.length) else none
  | _ => none

/-- The new slice that stands for what append makes where the capacity isn't known or is too small. -/
def grownA (H : Heap) (sz : Nat) (old new : List AV) (n : Nat) : AV × Heap := (.sl H.length 0 n sz none, H ++ [.row (old ++ new)])

def appendA (P : Program) (H : Heap) (t : TypeId) (s x : AV) : Option (AV × Heap) :=
  match P.underlying t with
  | some (.slice e) => match P.info? e, zeroOf P e with
    | some i, some z => match srcCells P H i.size x with
      | some (new, n) =>
        if 0 < i.size ∧ 0 < i.bytes ∧ allOne new ∧ z.cells.length = i.size then
        match s with
        | .snil => if n = 0 then some (.snil, H) else if n * i.bytes ≤ 140737488355328 then some (grownA H i.size [] new n) else none
        | .e0 => if n = 0 then some (.e0, H) else if n * i.bytes ≤ 140737488355328 then some (grownA H i.size [] new n) else none
        | .sl j off len sz cap => if sz = i.size then
            if n = 0 then some (s, H) else
            if (len + n) * i.bytes ≤ 140737488355328 then
              match rowAt H j with
              | some cs => match cap with
                | some c =>
                  if len + n ≤ c then (setAt cs (off + len * sz) new).map fun cs' => (.sl j off (len + n) sz cap, H.set j (.row cs'))
                  else if off + len * sz ≤ cs.length then some (grownA H sz ((cs.drop off).take (len * sz)) new (len + n)) else none
                | none =>
                  if off = 0 ∧ cs.length = len * sz then some (grownA (H.set j .dead) sz cs new (len + n)) else none
              | none => none
            else none
          else none
        | _ => none
        else none
      | none => none
    | _, _ => none
  | _ => none

def copyA (P : Program) (H : Heap) (t : TypeId) (d x : AV) : Option (AV × Heap) :=
  match P.underlying t with
  | some (.slice e) => match szOf P e with
    | some sz => match srcCells P H sz x with
      | some (new, n) => match d with
        | .sl j off len s _ => if s = sz ∧ 0 < sz then
            let m := min n len
            (storeAt H j off (new.take (m * sz))).map fun H' => (.int .i64 m, H')
          else none
        | .snil | .e0 => some (.int .i64 0, H)
        | _ => none
      | none => none
    | none => none
  | _ => none

def deleteA (P : Program) (H : Heap) (t : TypeId) : AV → AV → Option Heap
  | .mapv i, k => match P.underlying t, mapAt H i with
    | some (.map kt _), some es => if keyFits P kt k then match findA k es 0 with
        | some (some (j, _)) => some (H.set i (.map (es.eraseIdx j)))
        | some none => some H
        | none => none
      else none
    | _, _ => none
  | _, _ => none

def builtinA (P : Program) (T : Tab) (H : Heap) (b : Builtin) (ts : Array TypeId) (args : List AV) : Option (AV × Heap) :=
  match b, args with
  | .len, [x] => match ts[0]? with | some t => (lenT P T t H x).map (·, H) | none => none
  | .append, [s, x] => match ts[0]?, ts[1]? with
    | some t, some u => match P.underlying u with
      | some (.int _) => none
      | some _ => appendA P H t s x
      | none => none
    | _, _ => none
  | .copy, [d, x] => match ts[0]? with | some t => copyA P H t d x | none => none
  | .delete, [m, k] => match ts[0]? with | some t => (deleteA P H t m k).map (.tup [], ·) | none => none
  | .max, [x, y] => (maxT T x y).map (·, H)
  | _, _ => none

/-! ### One operation that is no call of a function -/
def evalOp (P : Program) (T : Tab) (fr : Fr) (H : Heap) : Op → Option (AV × Heap)
  | .move x | .assign x => (opd fr x).map (·, H)
  | .pick c a b => match truthT T (opd fr c) with
    | some true => (opd fr a).map (·, H)
    | some false => (opd fr b).map (·, H)
    | none => none
  | .alloc e => match zeroOf P e with
    | some z => some (addRow H z.cells)
    | none => none
  | .box _ x => match opd fr x with
    | some v => some (addRow H v.cells)
    | none => none
  | .build t ps => match partsA fr ps.toList with
    | some l => (buildA P t l).map (·, H)
    | none => none
  | .buildSlice t len ps => match partsA fr ps.toList with
    | some l => buildSliceA P H t len l
    | none => none
  | .load t a => match opd fr a with
    | some (.ptr i off) => match rowAt H i with
      | some cs => (loadA P t (cs.drop off)).map (·, H)
      | none => none
    | some (.ip cells) => (loadA P t cells).map (·, H)
    | _ => none
  | .store t a x => match opd fr a, opd fr x with
    | some (.ptr i off), some v => if szOf P t = some v.cells.length then (storeAt H i off v.cells).map (.undef, ·) else none
    | _, _ => none
  | .nilCheck x => match opd fr x with
    | some (.ptr i off) => some (.ptr i off, H)
    | some (.ip cells) => some (.ip cells, H)
    | some (.fn f caps) => some (.fn f caps, H)
    | _ => none
  | .binOp op t x y _ => match opd fr x, opd fr y with
    | some a, some b => (binA P T op t a b).map (·, H)
    | _, _ => none
  | .unOp op _ x => match opd fr x with
    | some a => (unA P T op a).map (·, H)
    | none => none
  | .convert s d x => match opd fr x with
    | some a => convA P T H s d a
    | none => none
  | .makeFunc (.func f) first caps => if first.isEmpty then (opds fr caps.toList).map fun l => (.fn f l, H) else none
  | .makeMap _ none => some (.mapv H.length, H ++ [.map []])
  | .makeChan t s => match opd fr s, P.underlying t with
    | some (.int _ n), some (.chan _ e) => match P.info? e with
      | some i => if 0 ≤ n ∧ n ≤ 1048576 ∧ i.bytes * n ≤ 1099511627776 then some (.chv H.length, H ++ [.chan n.toNat []]) else none
      | none => none
    | _, _ => none
  | .makeSlice t l c => match opd fr l, opd fr c with
    | some a, some b => makeSliceA P H t a b
    | _, _ => none
  | .slice t x lo hi mx => match opd fr x with
    | some v => match lo.elim (some none) (fun o => (opd fr o).map some), hi.elim (some none) (fun o => (opd fr o).map some), mx.elim (some none) (fun o => (opd fr o).map some) with
      | some a, some b, some m => (sliceT P T t v a b m).map (·, H)
      | _, _, _ => none
    | none => none
  | .fieldAddr s x f => match opd fr x with
    | some v => (fieldAddrT P T s f v).map (·, H)
    | none => none
  | .field s x f => match opd fr x with
    | some v => (fieldA P s f v).map (·, H)
    | none => none
  | .indexAddr t x i => match opd fr x, opd fr i with
    | some v, some n => (indexAddrT P T t v n).map (·, H)
    | _, _ => none
  | .index t x i => match opd fr x, opd fr i with
    | some v, some n => (indexT P T t v n).map (·, H)
    | _, _ => none
  | .lookup t x k ok => match opd fr x, opd fr k with
    | some v, some n => (lookupA P H t ok v n).map (·, H)
    | _, _ => none
  | .mapUpdate t m k v => match opd fr m, opd fr k, opd fr v with
    | some m, some k, some v => (mapUpdateA P H t m k v).map (.undef, ·)
    | _, _, _ => none
  | .extract x i => match opd fr x with
    | some (.tup vs) => (vs[i]?).map (·, H)
    | _ => none
  | .call { callee := .builtin b, args, argTypes } => match opds fr args.toList with
    | some l => builtinA P T H b argTypes l
    | none => none
  | _ => none

/-! ### Calls -/
abbrev CallF := FuncId → List AV → Heap → Option (AV × Heap)

def callSub (cf : CallF) (f : FuncId) (args : List AV) (H : Heap) : Option (AV × Heap) :=
  let ord := reach H 100000 (idsL args []) []
  if nodupB ord then
    match renL (idxOf · ord) args, restrict (idxOf · ord) H ord with
    | some args', some H1 => match cf f args' H1 with
      | some (r, H2) => if ord.length ≤ H2.length then
          match r.ren (back ord H.length), renH (back ord H.length) H2 with
          | some r', some H2' => some (r', putBack H ord H2')
          | _, _ => none
        else none
      | none => none
    | _, _ => none
  else none

/-- A call whose answer is known beforehand. -/
def tabCall (T : Tab) (cf : CallF) : CallF := fun f args H => match findC f args H T.calls with
  | some r => some r
  | none => cf f args H

/-- Is it a text, is it a number? -/
def kindB (P : Program) (t : TypeId) : Option Bool := match P.underlying t with
  | some .string => some true
  | some (.int _) => some false
  | _ => none
def fitsB : Bool → AV → Bool
  | true, .str _ => true
  | false, .int _ _ => true
  | _, _ => false
def hkeyOf (P : Program) : Op → Option (HKey × List Operand)
  | .lookup t x k ok => match P.underlying t with
    | some (.map kt et) => match kindB P kt, zeroOf P et with
      | some s, some z => some (.look s z ok, [x, k])
      | _, _ => none
    | _ => none
  | .mapUpdate t m k v => match P.underlying t with
    | some (.map kt _) => match kindB P kt with
      | some s => some (.upd s, [m, k, v])
      | none => none
    | _ => none
  | .load t x => match aggOf P t, szOf P t with
    | some true, some n => some (.load (some n), [x])
    | some false, some _ => some (.load none, [x])
    | _, _ => none
  | .store t a x => match szOf P t with
    | some n => some (.stor n, [a, x])
    | none => none
  | .makeSlice t l c => match P.underlying t with
    | some (.slice e) => match P.info? e, zeroOf P e with
      | some i, some z => if z.cells.length = i.size ∧ 0 < i.size then some (.mk i.bytes z.cells, [l, c]) else none
      | _, _ => none
    | _ => none
  | .convert s d x => match P.underlying s, P.underlying d with
    | some (.slice e), some .string => match P.underlying e with
      | some (.int .u8) => some (.toS, [x])
      | _ => none
    | _, _ => none
  | .call { callee := .builtin .delete, args, argTypes } => match args.toList, argTypes[0]? with
    | [m, k], some t => match P.underlying t with
      | some (.map kt _) => match kindB P kt with
        | some s => some (.del s, [m, k])
        | none => none
      | _ => none
    | _, _ => none
  | .call { callee := .builtin .len, args, argTypes } => match args.toList, argTypes[0]? with
    | [m], some t => match P.underlying t with
      | some (.map _ _) => some (.mlen, [m])
      | _ => none
    | _, _ => none
  | .call { callee := .builtin .append, args, argTypes } => match args.toList, argTypes[0]?, argTypes[1]? with
    | [s, x], some t, some u => match P.underlying u, P.underlying t with
      | some (.int _), _ => none
      | some _, some (.slice e) => match P.info? e, zeroOf P e with
        | some i, some z => if 0 < i.size ∧ 0 < i.bytes ∧ z.cells.length = i.size then some (.app i.size i.bytes, [s, x]) else none
        | _, _ => none
      | _, _ => none
    | _, _, _ => none
  | _ => none

/-- What these come to, of memory that bears no names. -/
def srcK (H : Heap) (sz : Nat) : AV → Option (List AV × Nat)
  | .snil | .e0 => some ([], 0)
  | .str l => if sz = 1 then some (l.map fun b => .int .u8 b.toNat, l.length) else none
  | .sl i off len s _ => match rowAt H i with
    | some cs => if s = sz ∧ off + len * sz ≤ cs.length then some ((cs.drop off).take (len * sz), len) else none
    | none => none
  | .im rows s => if s = sz then some (rows.flatten, rows.length) else none
  | _ => none
theorem srcK_eq (P : Program) (H : Heap) (sz : Nat) (x : AV) : srcK H sz x = srcCells P H sz x := by cases x <;> rfl
def opH : HKey → List AV → Heap → Option (AV × Heap)
  | .look s z ok, [.mapv i, k], H => match mapAt H i with
    | some es => if fitsB s k then match findA k es 0 with
        | some (some (_, v)) => some (if ok then .tup [v, .bool true] else v, H)
        | some none => some (if ok then .tup [z, .bool false] else z, H)
        | none => none
      else none
    | none => none
  | .upd s, [.mapv i, k, v], H => match mapAt H i with
    | some es => if fitsB s k then match findA k es 0 with
        | some (some (j, _)) => some (.undef, H.set i (.map (es.set j (k, v))))
        | some none => some (.undef, H.set i (.map (es ++ [(k, v)])))
        | none => none
      else none
    | none => none
  | .del s, [.mapv i, k], H => match mapAt H i with
    | some es => if fitsB s k then match findA k es 0 with
        | some (some (j, _)) => some (.tup [], H.set i (.map (es.eraseIdx j)))
        | some none => some (.tup [], H)
        | none => none
      else none
    | none => none
  | .mlen, [.mapv i], H => (mapAt H i).map fun es => (.int .i64 es.length, H)
  | .load (some n), [.ptr i off], H => match rowAt H i with
    | some cs => if n ≤ (cs.drop off).length then some (.agg ((cs.drop off).take n), H) else none
    | none => none
  | .load none, [.ptr i off], H => match rowAt H i with
    | some cs => ((cs.drop off).head?).map (·, H)
    | none => none
  | .app sz bytes, [s, x], H => match srcK H sz x with
    | some (new, n) => if allOne new then match s with
        | .snil => if n = 0 then some (.snil, H) else if n * bytes ≤ 140737488355328 then some (grownA H sz [] new n) else none
        | .e0 => if n = 0 then some (.e0, H) else if n * bytes ≤ 140737488355328 then some (grownA H sz [] new n) else none
        | .sl j off len s' none => if s' = sz then
            if n = 0 then some (s, H) else
            if (len + n) * bytes ≤ 140737488355328 then
              match rowAt H j with
              | some cs => if off = 0 ∧ cs.length = len * sz then some (grownA (H.set j .dead) sz cs new (len + n)) else none
              | none => none
            else none
          else none
        | .sl j off len s' (some c) => if s' = sz then
            if n = 0 then some (s, H) else
            if (len + n) * bytes ≤ 140737488355328 then
              match rowAt H j with
              | some cs => if len + n ≤ c then (setAt cs (off + len * sz) new).map fun cs' => (.sl j off (len + n) sz (some c), H.set j (.row cs'))
                  else if off + len * sz ≤ cs.length then some (grownA H sz ((cs.drop off).take (len * sz)) new (len + n)) else none
              | none => none
            else none
          else none
        | _ => none
      else none
    | none => none
  | .stor n, [.ptr i off, v], H => if v.cells.length = n then (storeAt H i off v.cells).map (.undef, ·) else none
  | .toS, [.sl i off len sz cap], H => match rowAt H i with
    | some cs => if sz = 1 ∧ len ≤ (cs.drop off).length then (bytesOfCells ((cs.drop off).take len)).map fun l => (.str l, H) else none
    | none => none
  | .mk bytes z, [.int _ l, .int _ c], H =>
    if 0 ≤ l ∧ l ≤ c ∧ c ≤ 1099511627776 ∧ bytes * c ≤ 140737488355328 then
      some (.sl H.length 0 l.toNat z.length (some c.toNat), H ++ [.row (repeatZ z (c.toNat * z.length))])
    else none
  | _, _, _ => none
/-- Out of what is known beforehand, of a part of the memory. -/
def subH (T : Tab) (k : HKey) (args : List AV) (H : Heap) : Option (AV × Heap) :=
  let ord := reach H 100000 (idsL args []) []
  if nodupB ord then
    match renL (idxOf · ord) args, restrict (idxOf · ord) H ord with
    | some args', some H1 => match findH k args' H1 T.hops with
      | some (r, H2) => if ord.length ≤ H2.length then
          match r.ren (back ord H.length), renH (back ord H.length) H2 with
          | some r', some H2' => some (r', putBack H ord H2')
          | _, _ => none
        else none
      | none => none
    | _, _ => none
  else none

def evalStep (P : Program) (T : Tab) (cf : CallF) (fr : Fr) (H : Heap) (op : Op) : Option (AV × Heap) :=
  match op with
  | .call { callee := .value f, args, .. } => match opd fr f, opds fr args.toList with
    | some (.fn g caps), some l => callSub cf g (l ++ caps) H
    | _, _ => none
  | op => match evalOp P T fr H op with
    | some r => some r
    | none => match hkeyOf P op with
      | some (k, xs) => match opds fr xs with
        | some l => subH T k l H
        | none => none
      | none => none

/-- A send into a buffer with room; a select of one receive, with a default. -/
def commA (P : Program) (fr : Fr) (H : Heap) : Op → Option (AV × Heap)
  | .send ch x => match opd fr ch, opd fr x with
    | some (.chv i), some v => match chanAt H i with
      | some (cap, buf) => if buf.length < cap then some (.undef, H.set i (.chan cap (buf ++ [v]))) else none
      | none => none
    | _, _ => none
  | .select cases false => match cases.toList with
    | [c] => match c.send with
      | none => match opd fr c.chan, zeroOf P c.elem with
        | some (.chv i), some z => match chanAt H i with
          | some (cap, v :: r) => some (.tup [.int .i64 0, .bool true, v], H.set i (.chan cap r))
          | some (cap, []) => some (.tup [.int .i64 (-1), .bool false, z], H)
          | none => none
        | _, _ => none
      | some _ => none
    | _ => none
  | _ => none
def evalStepC (P : Program) (T : Tab) (cf : CallF) (fr : Fr) (H : Heap) (op : Op) : Option (AV × Heap) := match evalStep P T cf fr H op with
  | some r => some r
  | none => commA P fr H op
/-- Is it not known whether it is wanted? -/
def topGuard (T : Tab) (ops : List Oper) (fr : Fr) (o : Oper) : Bool := match o.guard with
  | none => false
  | some (j, _) => match (ops[j]?).bind (·.dst) with
    | some d => match fget fr d with
      | .hid t sc ids => (findB T .idB [.hid t sc ids]).isNone
      | .top => true
      | _ => false
    | none => false
def wantedA (T : Tab) (ops : List Oper) (fr : Fr) (o : Oper) : Bool := match o.guard with
  | none => true
  | some (j, want) => match (ops[j]?).bind (·.dst) with
    | some d => match fget fr d with
      | .bool b => b == want
      | .hid t sc ids => match findB T .idB [.hid t sc ids] with
        | some b => b == want
        | none => false
      | _ => false
    | none => false

/-- Does it leave the memory as it is? -/
def quietOp : Op → Bool
  | .move _ | .assign _ | .pick _ _ _ | .build _ _ | .load _ _ | .nilCheck _ | .binOp _ _ _ _ _ | .unOp _ _ _ | .makeFunc _ _ _ | .slice _ _ _ _ _ | .fieldAddr _ _ _
  | .field _ _ _ | .indexAddr _ _ _ | .index _ _ _ | .lookup _ _ _ _ | .extract _ _ => true
  | _ => false

def evalOps (P : Program) (T : Tab) (cf : CallF) (ops : List Oper) : List Oper → Fr → Heap → Option (Fr × Heap)
  | [], fr, H => some (fr, H)
  | o :: r, fr, H =>
    match wantedA T ops fr o with
    | true => match evalStepC P T cf fr H o.op with
      | some (v, H') => fV v fun v => fput fr o.dst v fun fr' => match quietOp o.op with
        | true => evalOps P T cf ops r fr' H'
        | false => fH H' fun H' => evalOps P T cf ops r fr' H'
      | none => none
    | false => match topGuard T ops fr o with
      | true => none
      | false => fput fr o.dst .undef fun fr' => evalOps P T cf ops r fr' H

/-! ### A region that draws its order -/
/-- 0: it looks at its operands alone; 1: it looks at the memory, too; 2: it may turn the memory. -/
def cls : Op → Nat
  | .move _ | .assign _ | .pick _ _ _ | .fieldAddr _ _ _ | .field _ _ _ | .extract _ _ | .unOp _ _ _ | .binOp _ _ _ _ _ | .build _ _ | .nilCheck _ | .makeFunc _ _ _
  | .slice _ _ _ _ _ | .indexAddr _ _ _ | .index _ _ _ => 0
  | .load _ _ | .lookup _ _ _ _ => 1
  | .call { callee := .builtin .len, .. } => 1
  | _ => 2

/-- A set of small numbers, as one number. -/
def bitIn (L i : Nat) : Bool := Nat.beq (Nat.land (Nat.shiftRight L i) 1) 1
def addBit (L i : Nat) : Nat := Nat.lor L (Nat.shiftLeft 1 i)
def maskOf : List Nat → Nat
  | [] => 0
  | i :: r => addBit (maskOf r) i
def meet (a b : Nat) : Bool := !Nat.beq (Nat.land a b) 0
structure Sum where
  deps : Nat
  looks : Nat
  dst : Nat
def depsOf (o : Oper) : List Nat := (o.after.toList.filter fun e => Region.binds .any e).map (·.on)
def looksOf (ops : List Oper) (o : Oper) : List Nat :=
  (o.op.operands.toList.filterMap fun | .tmp t => some t | _ => none) ++
  (match o.guard with
   | some (g, _) => ((ops[g]?).bind (·.dst)).toList
   | none => [])
def sumOf (ops : List Oper) (o : Oper) : Sum := ⟨maskOf (depsOf o), maskOf (looksOf ops o), maskOf o.dst.toList⟩
def fSum {R : Type} (s : Sum) (K : Sum → R) : R := fNat s.deps fun a => fNat s.looks fun b => fNat s.dst fun c => K ⟨a, b, c⟩
def fSums {R : Type} (l : List Sum) (K : List Sum → R) : R := match l with
  | [] => K []
  | s :: r => fSum s fun s => fSums r fun r => K (s :: r)
theorem fSum_eq {R : Type} (s : Sum) (K : Sum → R) : fSum s K = K s := by cases s; simp [fSum, fNat_eq]
theorem fSums_eq {R : Type} : ∀ (l : List Sum) (K : List Sum → R), fSums l K = K l
  | [], K => rfl
  | s :: r, K => by simp [fSums, fSum_eq, fSums_eq r]

def readyAt (L : Nat) (i : Nat) (s : Sum) : Bool := !bitIn L i && Nat.beq (Nat.land s.deps L) s.deps
/-- Those from number i on that may come up now. -/
def readyM (L : Nat) : Nat → List Sum → List Nat
  | _, [] => []
  | i, s :: r => match readyAt L i s with
    | true => i :: readyM L (i + 1) r
    | false => readyM L (i + 1) r
/-- Each that has not come up, from number j on, waits for number i or is apart from it. -/
def freeM (L i : Nat) (si : Sum) : Nat → List Sum → Bool
  | _, [] => true
  | j, s :: r => (Nat.beq j i || bitIn L j || bitIn s.deps i || !(meet si.dst s.looks || meet si.dst s.dst || meet s.dst si.looks)) && freeM L i si (j + 1) r

/-! Does it stand for one value alone? -/
mutual
def AV.exact : AV → Bool
  | .ip _ | .e0 | .im _ _ | .top => false
  | .hid _ sc _ => sc
  | .fn _ caps => exactL caps
  | .agg cs => exactL cs
  | .tup vs => exactL vs
  | _ => true
def exactL : List AV → Bool
  | [] => true
  | v :: vs => v.exact && exactL vs
end

/-- What was read ahead of its turn: its number, what it read, itself and who came up ahead and waits for it, what it looks at. -/
structure WE where
  k : Nat
  v : AV
  mask : Nat
  lk : Nat
def fW {R : Type} (l : List WE) (K : List WE → R) : R := match l with
  | [] => K []
  | ⟨k, v, m, lk⟩ :: r => fNat m fun m => fNat lk fun lk => fW r fun r => K (⟨k, v, m, lk⟩ :: r)
theorem fW_eq {R : Type} : ∀ (l : List WE) (K : List WE → R), fW l K = K l
  | [], K => rfl
  | ⟨k, v, m, lk⟩ :: r, K => by simp [fW, fNat_eq, fW_eq r]

/-- What was read ahead of its turn still reads so; what it looks at was not written. -/
def holdW (P : Program) (T : Tab) (ops : List Oper) (dst : Nat) (fr : Fr) (H : Heap) : List WE → Bool
  | [] => true
  | ⟨k, v, _, lk⟩ :: W => !meet dst lk && (match ops[k]? with
    | some o => match evalOp P T fr H o.op with
      | some (u, _) => u.beq v
      | none => false
    | none => false) && holdW P T ops dst fr H W

/-- Names anew what is reached from the first m objects and from the frame; the rest is let go. -/
def canon (m : Nat) (fr : Fr) (H : Heap) : Option (Fr × Heap) :=
  let ord := reach H 100000 (List.range m ++ idsF fr []) []
  if ord.take m == List.range m && nodupB ord then
    match renF (idxOf · ord) fr, restrict (idxOf · ord) H ord with
    | some fr', some H' => some (fr', H')
    | _, _ => none
  else none

def sameSt (a b : Option (Fr × Heap)) : Bool := match a, b with
  | some (f, h), some (g, k) => beqLL f g && beqH h k
  | _, _ => false

/-- Number i's own step: its value, the memory behind it. -/
def stepA (P : Program) (T : Tab) (cf : CallF) (ops : List Oper) (o : Oper) (fr : Fr) (H : Heap) : Option (AV × Heap) := match wantedA T ops fr o with
  | true => evalStep P T cf fr H o.op
  | false => match topGuard T ops fr o with
    | true => none
    | false => some (.undef, H)

def apartW (dst : Nat) : List WE → Bool
  | [] => true
  | e :: W => !meet dst e.lk && apartW dst W

/-- May number j be taken ahead of all others? -/
def pickB (P : Program) (T : Tab) (ops : List Oper) (S : List Sum) (L : Nat) (fr : Fr) (H : Heap) (W : List WE) (j : Nat) : Bool := match ops[j]?, S[j]? with
  | some o, some s => (match wantedA T ops fr o with
    | false => true
    | true => match cls o.op with
      | 0 => true
      | 1 => !meet s.dst s.looks && (match evalOp P T fr H o.op with
        | some (v, _) => v.exact
        | none => false)
      | _ => false) && apartW s.dst W && freeM L j s 0 S
  | _, _ => false

def aheadW (s : Sum) (j : Nat) : List WE → List WE
  | [] => []
  | ⟨k, v, m, lk⟩ :: W => ⟨k, v, if meet s.deps m then addBit m j else m, lk⟩ :: aheadW s j W
def keepW (s : Sum) : List WE → List WE
  | [] => []
  | e :: W => if meet s.deps e.mask then keepW s W else e :: keepW s W
def newW (T : Tab) (ops : List Oper) (fr : Fr) (o : Oper) (s : Sum) (j : Nat) (v : AV) : List WE :=
  if Nat.beq (cls o.op) 1 && wantedA T ops fr o then [⟨j, v, maskOf [j], s.looks⟩] else []

def evalAny (P : Program) (T : Tab) (cf : CallF) (ops : List Oper) (S : List Sum) (m : Nat) : Nat → Bool → Nat → Fr → Heap → List WE → Option (Fr × Heap)
  | 0, br, L, fr, H, _ => match readyM L 0 S with
    | [] => if br then canon m fr H else some (fr, H)
    | _ => none
  | n + 1, br, L, fr, H, W =>
    match readyM L 0 S with
    | [] => if br then canon m fr H else some (fr, H)
    | i :: rs => match (i :: rs).find? (pickB P T ops S L fr H W) with
      | some j => match ops[j]?, S[j]? with
        | some o, some s => match stepA P T cf ops o fr H with
          | some (v, _) => fV v fun v => fput fr o.dst v fun fr' => fNat (addBit L j) fun L' => fW (newW T ops fr o s j v ++ aheadW s j W) fun W' =>
            evalAny P T cf ops S m n br L' fr' H W'
          | none => none
        | _, _ => none
      | none =>
        let one (b : Bool) (j : Nat) : Option (Fr × Heap) := match ops[j]?, S[j]? with
          | some o, some s => match stepA P T cf ops o fr H with
            | some (v, H') => fV v fun v => fput fr o.dst v fun fr' => fH H' fun H' => fNat (addBit L j) fun L' => fW (keepW s W) fun W' =>
              match holdW P T ops s.dst fr' H' W' with
              | true => evalAny P T cf ops S m n b L' fr' H' W'
              | false => none
            | none => none
          | _, _ => none
        match rs with
        | [] => one br i
        | _ => match one true i with
          | some st => if rs.all (fun j => sameSt (one true j) (some st)) then some st else none
          | none => none

/-! ### Code -/
inductive Ex where
  | norm | exit (id : Nat) | ret
  deriving DecidableEq

def iter (f : Fr → Heap → Option (Ex × Fr × Heap)) : Nat → Fr → Heap → Option (Ex × Fr × Heap)
  | 0, _, _ => none
  | n + 1, fr, H => match f fr H with
    | some (.norm, fr', H') => iter f n fr' H'
    | r => r

def evalCode (P : Program) (T : Tab) (cf : CallF) (N m : Nat) : Code → Fr → Heap → Option (Ex × Fr × Heap)
  | .skip, fr, H => some (.norm, fr, H)
  | .label _, fr, H => some (.norm, fr, H)
  | .region _ ops d, fr, H => match d with
    | false => match evalOps P T cf ops.toList ops.toList fr H with
      | some (fr', H') => some (.norm, fr', H')
      | none => none
    | true => match Region.noSelect ops with
      | true => fSums (ops.toList.map (sumOf ops.toList)) fun S => match evalAny P T cf ops.toList S m ops.size false 0 fr H [] with
        | some (fr', H') => fF fr' fun fr' => fH H' fun H' => some (.norm, fr', H')
        | none => none
      | false => none
  | .seq a b, fr, H => match evalCode P T cf N m a fr H with
    | some (.norm, fr', H') => evalCode P T cf N m b fr' H'
    | r => r
  | .cond c a b, fr, H => match truthT T (opd fr c) with
    | some true => evalCode P T cf N m a fr H
    | some false => evalCode P T cf N m b fr H
    | none => none
  | .block id c, fr, H => match evalCode P T cf N m c fr H with
    | some (.exit i, fr', H') => if i = id then some (.norm, fr', H') else some (.exit i, fr', H')
    | r => r
  | .loop c, fr, H => iter (evalCode P T cf N m c) N fr H
  | .exit id, fr, H => some (.exit id, fr, H)
  | .ret, fr, H => some (.ret, fr, H)
  | _, _, _ => none

def resultA (P : Program) (fr : Fr) (H : Heap) : ResultVar → Option AV
  | .tmp t => some (fget fr t)
  | .cell a t => match fget fr a with
    | .ptr i off => match rowAt H i with
      | some cs => loadA P t (cs.drop off)
      | none => none
    | _ => none
def resultsL (P : Program) (fr : Fr) (H : Heap) : List ResultVar → Option (List AV)
  | [] => some []
  | r :: rs => match resultA P fr H r, resultsL P fr H rs with
    | some a, some l => some (a :: l)
    | _, _ => none
def resultsA (P : Program) (fr : Fr) (H : Heap) (rs : List ResultVar) : Option AV :=
  match resultsL P fr H rs with
  | some [v] => some v
  | some l => some (.tup l)
  | none => none

/-- What is reached from a result and from the first m objects is kept. -/
def gcRet (m : Nat) (r : AV) (H : Heap) : Option (AV × Heap) :=
  let ord := reach H 100000 (List.range m ++ r.ids []) []
  if ord.take m == List.range m && nodupB ord then
    match r.ren (idxOf · ord), restrict (idxOf · ord) H ord with
    | some r', some H' => some (r', H')
    | _, _ => none
  else none

def runBody (P : Program) (T : Tab) (cf : CallF) (N : Nat) (fn : Func) (args : List AV) (H : Heap) : Option (AV × Heap) :=
  match fn.body with
  | some c => fF (chunks (args ++ List.replicate (fn.ntmps - args.length) .undef)) fun fr0 => fH H fun H0 => match evalCode P T cf N H.length c fr0 H0 with
    | some (.norm, fr, H') => match resultsA P fr H' fn.results.toList with
      | some r => fV r fun r => gcRet H.length r H'
      | none => none
    | some (.ret, fr, H') => match resultsA P fr H' fn.results.toList with
      | some r => fV r fun r => gcRet H.length r H'
      | none => none
    | _ => none
  | none => none

/-- A call, with what is known of some functions ('ext') in their place. -/
def full (P : Program) (T : Tab) (ok : FuncId → Bool) (ext : FuncId → Option (List AV → Heap → Option (AV × Heap))) : Nat → CallF
  | 0, _, _, _ => none
  | n + 1, f, args, H => match ext f with
    | some s => s args H
    | none => match ok f with
      | true => match P.funcs[f]? with
        | some fn => runBody P T (tabCall T (full P T ok ext n)) n fn args H
        | none => none
      | false => none

end Go.Proofs.BoatV
