/- The program's data as plain Lean data; a call's contract as a plain function of them. -/
import Derived.Test.YthfdbllpofiabaaDoorV23
namespace Go.Proofs.BoatV
open Go
set_option linter.unusedVariables false
variable {P : Program}

abbrev Str := List UInt8
def shI : Sh := .int .i64
structure ValueD where
  k : Int
  i : Int
  b : Bool
  s : Str
  deriving DecidableEq
def ValueD.av (v : ValueD) : List AV := [.int .i64 v.k, .int .i64 v.i, .bool v.b, .str v.s]
def ValueD.de : List AV → ValueD
  | [.int _ k, .int _ i, .bool b, .str s] => ⟨k, i, b, s⟩
  | _ => ⟨0, 0, false, []⟩
def ValueD.sh : List Sh := [shI, shI, .bool, .str]
structure ColumnD where
  id : Int
  name : Str
  kind : Int
def ColumnD.av (c : ColumnD) : List AV := [.int .i64 c.id, .str c.name, .int .i64 c.kind]
def ColumnD.de : List AV → ColumnD
  | [.int _ k, .str i, .int _ s] => ⟨k, i, s⟩
  | _ => ⟨0, [], 0⟩
def ColumnD.sh : List Sh := [shI, .str, shI]
structure SchemaD where
  id : Int
  cols : List ColumnD
  next : Int
def SchemaD.av (s : SchemaD) : List AV := [.int .i64 s.id, .im (s.cols.map ColumnD.av) 3, .int .i64 s.next]
def SchemaD.de : List AV → SchemaD
  | [.int _ k, .im r _, .int _ s] => ⟨k, r.map ColumnD.de, s⟩
  | _ => ⟨0, [], 0⟩
def SchemaD.sh : List Sh := [shI, .sl 3 ColumnD.sh, shI]
structure FieldD where
  source : Int
  trans : Int
  param : Int
def FieldD.av (f : FieldD) : List AV := [.int .i64 f.source, .int .i64 f.trans, .int .i64 f.param]
def FieldD.de : List AV → FieldD
  | [.int _ k, .int _ i, .int _ s] => ⟨k, i, s⟩
  | _ => ⟨0, 0, 0⟩
def FieldD.sh : List Sh := [shI, shI, shI]
structure SpecD where
  id : Int
  fields : List FieldD
def SpecD.av (s : SpecD) : List AV := [.int .i64 s.id, .im (s.fields.map FieldD.av) 3]
def SpecD.de : List AV → SpecD
  | [.int _ k, .im r _] => ⟨k, r.map FieldD.de⟩
  | _ => ⟨0, []⟩
def SpecD.sh : List Sh := [shI, .sl 3 FieldD.sh]
structure StatD where
  col : Int
  nulls : Int
  mn : ValueD
  mx : ValueD
def StatD.av (s : StatD) : List AV := [.int .i64 s.col, .int .i64 s.nulls, .int .i64 s.mn.k, .int .i64 s.mn.i, .bool s.mn.b, .str s.mn.s, .int .i64 s.mx.k, .int .i64 s.mx.i, .bool s.mx.b, .str s.mx.s]
def StatD.de : List AV → StatD
  | [.int _ c, .int _ n, .int _ k, .int _ i, .bool b, .str s, .int _ k', .int _ i', .bool b', .str s'] => ⟨c, n, ⟨k, i, b, s⟩, ⟨k', i', b', s'⟩⟩
  | _ => ⟨0, 0, ⟨0, 0, false, []⟩, ⟨0, 0, false, []⟩⟩
def StatD.sh : List Sh := [shI, shI, shI, shI, .bool, .str, shI, shI, .bool, .str]
structure FileD where
  path : Str
  rows : Int
  spec : Int
  part : List ValueD
  stats : List StatD
def FileD.av (f : FileD) : List AV := [.str f.path, .int .i64 f.rows, .int .i64 f.spec, .im (f.part.map ValueD.av) 4, .im (f.stats.map StatD.av) 10]
def FileD.de : List AV → FileD
  | [.str p, .int _ r, .int _ s, .im pt _, .im st _] => ⟨p, r, s, pt.map ValueD.de, st.map StatD.de⟩
  | _ => ⟨[], 0, 0, [], []⟩
def FileD.sh : List Sh := [.str, shI, shI, .sl 4 ValueD.sh, .sl 10 StatD.sh]
structure MarkD where
  path : Str
  file : Str
  rows : Int
def MarkD.av (m : MarkD) : List AV := [.str m.path, .str m.file, .int .i64 m.rows]
def MarkD.de : List AV → MarkD
  | [.str p, .str f, .int _ r] => ⟨p, f, r⟩
  | _ => ⟨[], [], 0⟩
def MarkD.sh : List Sh := [.str, .str, shI]
structure TxnD where
  id : Str
  version : Int
def TxnD.av (t : TxnD) : List AV := [.str t.id, .int .i64 t.version]
def TxnD.de : List AV → TxnD
  | [.str p, .int _ r] => ⟨p, r⟩
  | _ => ⟨[], 0⟩
def TxnD.sh : List Sh := [.str, shI]
structure ActionD where
  kind : Int
  file : FileD
  path : Str
  mark : MarkD
  schema : SchemaD
  spec : SpecD
  txn : Str
  client : Int
  seq : Int
  op : Int
  time : Int
def ActionD.av (a : ActionD) : List AV := [.int .i64 a.kind,
  .str a.file.path, .int .i64 a.file.rows, .int .i64 a.file.spec, .im (a.file.part.map ValueD.av) 4, .im (a.file.stats.map StatD.av) 10,
  .str a.path, .str a.mark.path, .str a.mark.file, .int .i64 a.mark.rows,
  .int .i64 a.schema.id, .im (a.schema.cols.map ColumnD.av) 3, .int .i64 a.schema.next,
  .int .i64 a.spec.id, .im (a.spec.fields.map FieldD.av) 3,
  .str a.txn, .int .i64 a.client, .int .i64 a.seq, .int .i64 a.op, .int .i64 a.time]
def ActionD.de : List AV → ActionD
  | [.int _ k, .str fp, .int _ fr, .int _ fs, .im pt _, .im st _, .str p, .str mp, .str mf, .int _ mr, .int _ si, .im cs _, .int _ sn, .int _ pi, .im fs' _, .str t, .int _ c, .int _ q, .int _ o, .int _ tm] =>
    ⟨k, ⟨fp, fr, fs, pt.map ValueD.de, st.map StatD.de⟩, p, ⟨mp, mf, mr⟩, ⟨si, cs.map ColumnD.de, sn⟩, ⟨pi, fs'.map FieldD.de⟩, t, c, q, o, tm⟩
  | _ => ⟨0, ⟨[], 0, 0, [], []⟩, [], ⟨[], [], 0⟩, ⟨0, [], 0⟩, ⟨0, []⟩, [], 0, 0, 0, 0⟩
def ActionD.sh : List Sh := [shI, .str, shI, shI, .sl 4 ValueD.sh, .sl 10 StatD.sh, .str, .str, .str, shI, shI, .sl 3 ColumnD.sh, shI, shI, .sl 3 FieldD.sh, .str, shI, shI, shI, shI]
structure SnapshotD where
  version : Int
  time : Int
  schema : SchemaD
  spec : SpecD
  files : List FileD
  marks : List MarkD
  txns : List TxnD
def SnapshotD.av (s : SnapshotD) : List AV := [.int .i64 s.version, .int .i64 s.time, .int .i64 s.schema.id, .im (s.schema.cols.map ColumnD.av) 3, .int .i64 s.schema.next,
  .int .i64 s.spec.id, .im (s.spec.fields.map FieldD.av) 3, .im (s.files.map FileD.av) 5, .im (s.marks.map MarkD.av) 3, .im (s.txns.map TxnD.av) 2]
def SnapshotD.de : List AV → SnapshotD
  | [.int _ v, .int _ t, .int _ si, .im cs _, .int _ sn, .int _ pi, .im fs' _, .im fl _, .im mq _, .im tx _] => ⟨v, t, ⟨si, cs.map ColumnD.de, sn⟩, ⟨pi, fs'.map FieldD.de⟩, fl.map FileD.de, mq.map MarkD.de, tx.map TxnD.de⟩
  | _ => ⟨0, 0, ⟨0, [], 0⟩, ⟨0, []⟩, [], [], []⟩
def SnapshotD.sh : List Sh := [shI, shI, shI, .sl 3 ColumnD.sh, shI, shI, .sl 3 FieldD.sh, .sl 5 FileD.sh, .sl 3 MarkD.sh, .sl 2 TxnD.sh]

theorem ValueD.de_av (d : ValueD) : ValueD.de d.av = d := rfl
theorem ColumnD.de_av (d : ColumnD) : ColumnD.de d.av = d := rfl
theorem FieldD.de_av (d : FieldD) : FieldD.de d.av = d := rfl
theorem StatD.de_av (d : StatD) : StatD.de d.av = d := rfl
theorem MarkD.de_av (d : MarkD) : MarkD.de d.av = d := rfl
theorem TxnD.de_av (d : TxnD) : TxnD.de d.av = d := rfl
theorem map_de {α : Type} {av : α → List AV} {de : List AV → α} (h : ∀ d, de (av d) = d) (l : List α) : (l.map av).map de = l := by
  rw [List.map_map]
  induction l with
  | nil => rfl
  | cons x xs ih => simp [h, ih]
theorem SchemaD.de_av (d : SchemaD) : SchemaD.de d.av = d := by
  show SchemaD.mk d.id ((d.cols.map ColumnD.av).map ColumnD.de) d.next = d
  rw [map_de ColumnD.de_av]
theorem SpecD.de_av (d : SpecD) : SpecD.de d.av = d := by
  show SpecD.mk d.id ((d.fields.map FieldD.av).map FieldD.de) = d
  rw [map_de FieldD.de_av]
theorem FileD.de_av (d : FileD) : FileD.de d.av = d := by
  show FileD.mk d.path d.rows d.spec ((d.part.map ValueD.av).map ValueD.de) ((d.stats.map StatD.av).map StatD.de) = d
  rw [map_de ValueD.de_av, map_de StatD.de_av]
theorem ActionD.de_av (d : ActionD) : ActionD.de d.av = d := by
  show ActionD.mk d.kind ⟨d.file.path, d.file.rows, d.file.spec, (d.file.part.map ValueD.av).map ValueD.de, (d.file.stats.map StatD.av).map StatD.de⟩ d.path d.mark ⟨d.schema.id, (d.schema.cols.map ColumnD.av).map ColumnD.de, d.schema.next⟩ ⟨d.spec.id, (d.spec.fields.map FieldD.av).map FieldD.de⟩ d.txn d.client d.seq d.op d.time = d
  rw [map_de ValueD.de_av, map_de StatD.de_av, map_de ColumnD.de_av, map_de FieldD.de_av]
theorem SnapshotD.de_av (d : SnapshotD) : SnapshotD.de d.av = d := by
  show SnapshotD.mk d.version d.time ⟨d.schema.id, (d.schema.cols.map ColumnD.av).map ColumnD.de, d.schema.next⟩ ⟨d.spec.id, (d.spec.fields.map FieldD.av).map FieldD.de⟩ ((d.files.map FileD.av).map FileD.de) ((d.marks.map MarkD.av).map MarkD.de) ((d.txns.map TxnD.av).map TxnD.de) = d
  rw [map_de ColumnD.de_av, map_de FieldD.de_av, map_de FileD.de_av, map_de MarkD.de_av, map_de TxnD.de_av]

/-! ### Lengths -/
def FitS (s : Str) : Prop := s.length ≤ maxLen
def ValueD.fit (v : ValueD) : Prop := FitS v.s ∧ (Lit.int .i64 v.i).wf = true
def ColumnD.fit (c : ColumnD) : Prop := FitS c.name
def SchemaD.fit (s : SchemaD) : Prop := s.cols.length ≤ maxLen ∧ ∀ c ∈ s.cols, c.fit
def SpecD.fit (s : SpecD) : Prop := s.fields.length ≤ maxLen
def StatD.fit (s : StatD) : Prop := s.mn.fit ∧ s.mx.fit
def FileD.fit (f : FileD) : Prop := FitS f.path ∧ f.part.length ≤ maxLen ∧ (∀ v ∈ f.part, v.fit) ∧ f.stats.length ≤ maxLen ∧ ∀ s ∈ f.stats, s.fit
def MarkD.fit (m : MarkD) : Prop := FitS m.path ∧ FitS m.file
def TxnD.fit (t : TxnD) : Prop := FitS t.id
def ActionD.fit (a : ActionD) : Prop := a.file.fit ∧ FitS a.path ∧ a.mark.fit ∧ a.schema.fit ∧ a.spec.fit ∧ FitS a.txn
def SnapshotD.fit (s : SnapshotD) : Prop := s.schema.fit ∧ s.spec.fit ∧ (s.files.length ≤ maxLen ∧ ∀ f ∈ s.files, f.fit) ∧ (s.marks.length ≤ maxLen ∧ ∀ m ∈ s.marks, m.fit) ∧ (s.txns.length ≤ maxLen ∧ ∀ t ∈ s.txns, t.fit)

/-! ### From what came in -/
theorem OkAVs.nil_inv {a : List AV} (h : OkAVs [] a) : a = [] := List.length_eq_zero_iff.1 h.1
theorem OkAVs.cons_inv {s : Sh} {l : List Sh} {a : List AV} (h : OkAVs (s :: l) a) : ∃ x r, a = x :: r ∧ OkAV s x ∧ OkAVs l r := by
  match a, h with
  | [], h => exact absurd h.1 (by simp)
  | x :: r, h => exact ⟨x, r, rfl, h.2 0 s x rfl rfl, by simpa using h.1, fun k t y ht hy => h.2 (k + 1) t y (by simpa using ht) (by simpa using hy)⟩
theorem OkAVs.one {l : List Sh} {a : List AV} (h : OkAVs (shI :: l) a) : ∃ n r, a = .int .i64 n :: r ∧ (Lit.int .i64 n).wf = true ∧ OkAVs l r := by
  obtain ⟨x, r, rfl, h1, h2⟩ := h.cons_inv
  cases h1 with
  | int _ n hw => exact ⟨n, r, rfl, hw, h2⟩
theorem OkAVs.text {l : List Sh} {a : List AV} (h : OkAVs (.str :: l) a) : ∃ s r, a = .str s :: r ∧ FitS s ∧ OkAVs l r := by
  obtain ⟨x, r, rfl, h1, h2⟩ := h.cons_inv
  cases h1 with
  | str s hw => exact ⟨s, r, rfl, hw, h2⟩
theorem OkAVs.truth {l : List Sh} {a : List AV} (h : OkAVs (.bool :: l) a) : ∃ b r, a = .bool b :: r ∧ True ∧ OkAVs l r := by
  obtain ⟨x, r, rfl, h1, h2⟩ := h.cons_inv
  cases h1 with
  | bool b => exact ⟨b, r, rfl, trivial, h2⟩
theorem OkAVs.rows {α : Type} {av : α → List AV} {fit : α → Prop} {sz : Nat} {el l : List Sh} {a : List AV} (h : OkAVs (.sl sz el :: l) a) (hr : ∀ row, OkAVs el row → ∃ d, fit d ∧ row = av d) :
    ∃ (ds : List α) (r : List AV), a = .im (ds.map av) sz :: r ∧ (ds.length ≤ maxLen ∧ ∀ d ∈ ds, fit d) ∧ OkAVs l r := by
  obtain ⟨x, r, rfl, h1, h2⟩ := h.cons_inv
  cases h1 with
  | sl _ _ rows hl hn hc =>
    have : ∀ rows : List (List AV), (∀ (j : Nat) (row : List AV), rows[j]? = some row → OkAVs el row) → ∃ ds : List α, (∀ d ∈ ds, fit d) ∧ rows = ds.map av := by
      intro rows
      induction rows with
      | nil => intro _; exact ⟨[], by simp, rfl⟩
      | cons w ws ih =>
        intro hw
        obtain ⟨ds, h3, rfl⟩ := ih (fun j row h => hw (j + 1) row (by simpa using h))
        obtain ⟨d, h4, rfl⟩ := hr w (hw 0 w rfl)
        exact ⟨d :: ds, by simpa using ⟨h4, h3⟩, rfl⟩
    obtain ⟨ds, h3, rfl⟩ := this rows (fun j row h => ⟨hn j row h, hc j row h⟩)
    exact ⟨ds, r, rfl, ⟨by simpa using hl, h3⟩, h2⟩

theorem ValueD.of {a : List AV} (h : OkAVs ValueD.sh a) : ∃ d : ValueD, d.fit ∧ a = d.av := by
  obtain ⟨k, r, rfl, _, h⟩ := h.one
  obtain ⟨i, r, rfl, wi, h⟩ := h.one
  obtain ⟨b, r, rfl, _, h⟩ := h.truth
  obtain ⟨s, r, rfl, hs, h⟩ := h.text
  obtain rfl := h.nil_inv
  exact ⟨⟨k, i, b, s⟩, ⟨hs, wi⟩, rfl⟩
theorem ColumnD.of {a : List AV} (h : OkAVs ColumnD.sh a) : ∃ d : ColumnD, d.fit ∧ a = d.av := by
  obtain ⟨k, r, rfl, _, h⟩ := h.one
  obtain ⟨s, r, rfl, hs, h⟩ := h.text
  obtain ⟨i, r, rfl, _, h⟩ := h.one
  obtain rfl := h.nil_inv
  exact ⟨⟨k, s, i⟩, hs, rfl⟩
theorem FieldD.of {a : List AV} (h : OkAVs FieldD.sh a) : ∃ d : FieldD, True ∧ a = d.av := by
  obtain ⟨k, r, rfl, _, h⟩ := h.one
  obtain ⟨s, r, rfl, _, h⟩ := h.one
  obtain ⟨i, r, rfl, _, h⟩ := h.one
  obtain rfl := h.nil_inv
  exact ⟨⟨k, s, i⟩, trivial, rfl⟩
theorem StatD.of {a : List AV} (h : OkAVs StatD.sh a) : ∃ d : StatD, d.fit ∧ a = d.av := by
  obtain ⟨c, r, rfl, _, h⟩ := h.one
  obtain ⟨n, r, rfl, _, h⟩ := h.one
  obtain ⟨k, r, rfl, _, h⟩ := h.one
  obtain ⟨i, r, rfl, wi, h⟩ := h.one
  obtain ⟨b, r, rfl, _, h⟩ := h.truth
  obtain ⟨s, r, rfl, hs, h⟩ := h.text
  obtain ⟨k', r, rfl, _, h⟩ := h.one
  obtain ⟨i', r, rfl, wi', h⟩ := h.one
  obtain ⟨b', r, rfl, _, h⟩ := h.truth
  obtain ⟨s', r, rfl, hs', h⟩ := h.text
  obtain rfl := h.nil_inv
  exact ⟨⟨c, n, ⟨k, i, b, s⟩, ⟨k', i', b', s'⟩⟩, ⟨⟨hs, wi⟩, ⟨hs', wi'⟩⟩, rfl⟩
theorem MarkD.of {a : List AV} (h : OkAVs MarkD.sh a) : ∃ d : MarkD, d.fit ∧ a = d.av := by
  obtain ⟨k, r, rfl, h0, h⟩ := h.text
  obtain ⟨s, r, rfl, hs, h⟩ := h.text
  obtain ⟨i, r, rfl, _, h⟩ := h.one
  obtain rfl := h.nil_inv
  exact ⟨⟨k, s, i⟩, ⟨h0, hs⟩, rfl⟩
theorem TxnD.of {a : List AV} (h : OkAVs TxnD.sh a) : ∃ d : TxnD, d.fit ∧ a = d.av := by
  obtain ⟨k, r, rfl, h0, h⟩ := h.text
  obtain ⟨i, r, rfl, _, h⟩ := h.one
  obtain rfl := h.nil_inv
  exact ⟨⟨k, i⟩, h0, rfl⟩
theorem FileD.of {a : List AV} (h : OkAVs FileD.sh a) : ∃ d : FileD, d.fit ∧ a = d.av := by
  obtain ⟨p, r, rfl, hp, h⟩ := h.text
  obtain ⟨n, r, rfl, _, h⟩ := h.one
  obtain ⟨s, r, rfl, _, h⟩ := h.one
  obtain ⟨pt, r, rfl, f1, h⟩ := h.rows (fun _ => ValueD.of)
  obtain ⟨st, r, rfl, f2, h⟩ := h.rows (fun _ => StatD.of)
  obtain rfl := h.nil_inv
  exact ⟨⟨p, n, s, pt, st⟩, ⟨hp, f1.1, f1.2, f2.1, f2.2⟩, rfl⟩
theorem SchemaD.of {a : List AV} (h : OkAVs SchemaD.sh a) : ∃ d : SchemaD, d.fit ∧ a = d.av := by
  obtain ⟨i, r, rfl, _, h⟩ := h.one
  obtain ⟨cs, r, rfl, f1, h⟩ := h.rows (fun _ => ColumnD.of)
  obtain ⟨n, r, rfl, _, h⟩ := h.one
  obtain rfl := h.nil_inv
  exact ⟨⟨i, cs, n⟩, f1, rfl⟩
theorem SpecD.of {a : List AV} (h : OkAVs SpecD.sh a) : ∃ d : SpecD, d.fit ∧ a = d.av := by
  obtain ⟨i, r, rfl, _, h⟩ := h.one
  obtain ⟨fs, r, rfl, f1, h⟩ := h.rows (fun _ => FieldD.of)
  obtain rfl := h.nil_inv
  exact ⟨⟨i, fs⟩, f1.1, rfl⟩
theorem ActionD.of {a : List AV} (h : OkAVs ActionD.sh a) : ∃ d : ActionD, d.fit ∧ a = d.av := by
  obtain ⟨k, r, rfl, _, h⟩ := h.one
  obtain ⟨fp, r, rfl, hfp, h⟩ := h.text
  obtain ⟨fn, r, rfl, _, h⟩ := h.one
  obtain ⟨fs, r, rfl, _, h⟩ := h.one
  obtain ⟨pt, r, rfl, f1, h⟩ := h.rows (fun _ => ValueD.of)
  obtain ⟨st, r, rfl, f2, h⟩ := h.rows (fun _ => StatD.of)
  obtain ⟨p, r, rfl, hp, h⟩ := h.text
  obtain ⟨mp, r, rfl, hmp, h⟩ := h.text
  obtain ⟨mf, r, rfl, hmf, h⟩ := h.text
  obtain ⟨mr, r, rfl, _, h⟩ := h.one
  obtain ⟨si, r, rfl, _, h⟩ := h.one
  obtain ⟨cs, r, rfl, f3, h⟩ := h.rows (fun _ => ColumnD.of)
  obtain ⟨sn, r, rfl, _, h⟩ := h.one
  obtain ⟨pi, r, rfl, _, h⟩ := h.one
  obtain ⟨fl, r, rfl, f4, h⟩ := h.rows (fun _ => FieldD.of)
  obtain ⟨t, r, rfl, ht, h⟩ := h.text
  obtain ⟨c, r, rfl, _, h⟩ := h.one
  obtain ⟨q, r, rfl, _, h⟩ := h.one
  obtain ⟨o, r, rfl, _, h⟩ := h.one
  obtain ⟨tm, r, rfl, _, h⟩ := h.one
  obtain rfl := h.nil_inv
  exact ⟨⟨k, ⟨fp, fn, fs, pt, st⟩, p, ⟨mp, mf, mr⟩, ⟨si, cs, sn⟩, ⟨pi, fl⟩, t, c, q, o, tm⟩, ⟨⟨hfp, f1.1, f1.2, f2.1, f2.2⟩, hp, ⟨hmp, hmf⟩, f3, f4.1, ht⟩, rfl⟩
theorem SnapshotD.of {a : List AV} (h : OkAVs SnapshotD.sh a) : ∃ d : SnapshotD, d.fit ∧ a = d.av := by
  obtain ⟨v, r, rfl, _, h⟩ := h.one
  obtain ⟨t, r, rfl, _, h⟩ := h.one
  obtain ⟨si, r, rfl, _, h⟩ := h.one
  obtain ⟨cs, r, rfl, f3, h⟩ := h.rows (fun _ => ColumnD.of)
  obtain ⟨sn, r, rfl, _, h⟩ := h.one
  obtain ⟨pi, r, rfl, _, h⟩ := h.one
  obtain ⟨fl, r, rfl, f4, h⟩ := h.rows (fun _ => FieldD.of)
  obtain ⟨fi, r, rfl, f5, h⟩ := h.rows (fun _ => FileD.of)
  obtain ⟨mk, r, rfl, f6, h⟩ := h.rows (fun _ => MarkD.of)
  obtain ⟨tx, r, rfl, f7, h⟩ := h.rows (fun _ => TxnD.of)
  obtain rfl := h.nil_inv
  exact ⟨⟨v, t, ⟨si, cs, sn⟩, ⟨pi, fl⟩, fi, mk, tx⟩, ⟨f3, f4.1, f5, f6, f7⟩, rfl⟩

/-! ### Contracts -/
open Classical in
/-- The answer g of what the arguments stand for; none where they stand for nothing. -/
noncomputable def known {α : Type} (fit : α → Prop) (enc : α → List AV) (g : α → AV) : List AV → Heap → Option AV := fun a H =>
  if h : (∃ d, fit d ∧ enc d = a) ∧ H = [] then some (g (Classical.choose h.1)) else none
theorem known_at {α : Type} {fit : α → Prop} {enc : α → List AV} {g : α → AV} (inj : ∀ d e, enc d = enc e → d = e) {d : α} (hd : fit d) : known fit enc g (enc d) [] = some (g d) := by
  unfold known
  have h : (∃ e, fit e ∧ enc e = enc d) ∧ ([] : Heap) = [] := ⟨⟨d, hd, rfl⟩, rfl⟩
  rw [dif_pos h]
  rw [inj _ _ (Classical.choose_spec h.1).2]
theorem known_spec {α : Type} {fit : α → Prop} {enc : α → List AV} {g : α → AV} {F : Flow} {sp : Sps} (hF : ∀ n, SpecB P F.f (F.spec sp n)) (h : ∀ d, fit d → ∃ n, F.spec sp n (enc d) [] = some (g d, [])) : SpecB P F.f (pure1 (known fit enc g)) := by
  intro a H r H' he
  unfold pure1 known at he
  split at he
  · rename_i v hv
    split at hv
    · rename_i hh
      simp only [Option.some.injEq, Prod.mk.injEq] at he hv
      obtain ⟨rfl, rfl⟩ := he
      obtain ⟨hx, rfl⟩ := hh
      obtain ⟨h1, h2⟩ := Classical.choose_spec hx
      obtain ⟨n, hn⟩ := h _ h1
      rw [h2] at hn
      subst hv
      exact hF n _ _ _ _ hn
    · cases hv
  · cases he
end Go.Proofs.BoatV
