/- QuietScripts: acts, faults, moments; what is gone; a copy. -/
import Derived.Test.YtbbpkkeaddbcnaaZQS2
import Derived.Test.YtbbpkkeaddbcnaaZJ29
set_option linter.unusedSimpArgs false
set_option linter.unusedVariables false
namespace Go.Proofs.Ytbbpkkeaddbcnaa.ZJM.QS
open Go.Proofs.Ytbbpkkeaddbcnaa.ZJM Go.RowKit

structure Act where
  (k a1 a2 a3 a4 a5 a6 : Int) (w b8 : Bool) (s : ByteArray) (c10 c11 c12 : Int)
def Act.cs (x : Act) : List PV := [.int .i64 x.k, .int .i64 x.a1, .int .i64 x.a2, .int .i64 x.a3, .int .i64 x.a4, .int .i64 x.a5, .int .i64 x.a6, .bool x.w, .bool x.b8, .str x.s, .int .i64 x.c10, .int .i64 x.c11, .int .i64 x.c12]
def Act.enc (x : Act) : PV := .agg x.cs
structure Flt where
  (f0 f1 f2 f3 f4 : Int) (b5 : Bool) (f6 f7 f8 f9 f10 f11 f12 f13 f14 : Int)
def Flt.cs (x : Flt) : List PV := [.int .i64 x.f0, .int .i64 x.f1, .int .u8 x.f2, .int .i64 x.f3, .int .i64 x.f4, .bool x.b5, .int .i64 x.f6, .int .u8 x.f7, .int .u8 x.f8, .int .u8 x.f9, .int .u8 x.f10, .int .u8 x.f11, .int .u8 x.f12, .int .u8 x.f13, .int .u8 x.f14]
def Flt.enc (x : Flt) : PV := .agg x.cs
theorem Act.data (x : Act) : x.enc.data = true := rfl
theorem Flt.data (x : Flt) : x.enc.data = true := rfl
theorem Act.datas (x : Act) : PV.datas x.cs = true := rfl
theorem Act.len (x : Act) : x.cs.length = 13 := rfl
theorem Act.cell (x : Act) : x.cs.all PV.isCell = true := rfl
/-- Lists: acts, faults. -/
abbrev As (l : List Act) : List PV := encs Act.enc l
abbrev Fs (l : List Flt) : List PV := encs Flt.enc l
structure Mom where
  (na : Bool) (acts : List Act) (nf : Bool) (flts : List Flt)
def Mom.cs (m : Mom) : List PV := [.lst none m.na 13 (As m.acts), .lst none m.nf 15 (Fs m.flts)]
def Mom.enc (m : Mom) : PV := .agg m.cs
abbrev Ms (l : List Mom) : List PV := encs Mom.enc l
def Mom.ok (m : Mom) : Prop := (m.na = true → m.acts = []) ∧ (m.nf = true → m.flts = [])
theorem as_data (l : List Act) : PV.datas (As l) = true := encs_data fun x _ => x.data
theorem fs_data (l : List Flt) : PV.datas (Fs l) = true := encs_data fun x _ => x.data
theorem Mom.datas (m : Mom) : PV.datas m.cs = true := by simp [Mom.cs, PV.datas, PV.data, as_data, fs_data]
theorem Mom.data (m : Mom) : m.enc.data = true := by simp [Mom.enc, PV.data, Mom.datas]
theorem Mom.len (m : Mom) : m.cs.length = 2 := rfl
theorem Mom.cell (m : Mom) : m.cs.all PV.isCell = true := rfl
theorem ms_data (l : List Mom) : PV.datas (Ms l) = true := encs_data fun x _ => x.data
theorem as_okns (l : List Act) (a b c) : PV.okns a b c (As l) = true := PV.datas_okns _ _ _ _ (as_data l)
theorem fs_okns (l : List Flt) (a b c) : PV.okns a b c (Fs l) = true := PV.datas_okns _ _ _ _ (fs_data l)
theorem ms_okns (l : List Mom) (a b c) : PV.okns a b c (Ms l) = true := PV.datas_okns _ _ _ _ (ms_data l)
theorem as_deps (l : List Act) (a) : PV.deps a (As l) = true := PV.datas_deps _ _ (as_data l)
theorem fs_deps (l : List Flt) (a) : PV.deps a (Fs l) = true := PV.datas_deps _ _ (fs_data l)
theorem ms_deps (l : List Mom) (a) : PV.deps a (Ms l) = true := PV.datas_deps _ _ (ms_data l)
/-- Acts' cells, moments' cells, in a row. -/
abbrev Ac (l : List Act) : List PV := flats Act.cs l
abbrev Mc (l : List Mom) : List PV := flats Mom.cs l
theorem ac_data (l : List Act) : PV.datas (Ac l) = true := flats_data Act.datas l
theorem mc_data (l : List Mom) : PV.datas (Mc l) = true := flats_data Mom.datas l

theorem h3 : E.fns 3 = some c3 := rfl
theorem h7 : E.fns 7 = some c7 := rfl
theorem h14 : E.fns 14 = some c14 := rfl
theorem h39 : E.fns 39 = some c39 := rfl
theorem h16 : E.fns 16 = some c16 := rfl
theorem h9 : E.fns 9 = some c9 := rfl
theorem h8 : E.fns 8 = some c8 := rfl
theorem h10 : E.fns 10 = some c10 := rfl
theorem h38 : E.fns 38 = some c38 := rfl
theorem h11 : E.fns 11 = some c11 := rfl
theorem h12 : E.fns 12 = some c12 := rfl
theorem h13 : E.fns 13 = some c13 := rfl
theorem h15 : E.fns 15 = some c15 := rfl
theorem h40 : E.fns 40 = some c40 := rfl

/-- What just reads. -/
def isRead (x : Act) : Bool := x.k == 2 && !x.w
theorem app16 (x : Act) : app E false (.fn 16 []) [x.enc] [] = some (.bool (isRead x), emptyBag, []) := by
  rw [app_fn E rfl h16 rfl]
  cases h : (x.k == 2) <;> simp [c16, Act.enc, Act.cs, isRead, h]
theorem app12 (x : Act) : app E false (.fn 12 []) [x.enc] [] = some (.bool (isRead x), emptyBag, []) := by
  rw [app_fn E rfl h12 rfl]
  cases h : (x.k == 2) <;> simp [c12, Act.enc, Act.cs, isRead, h]
theorem app38 (x : Act) : app E false (.fn 38 []) [x.enc] [] = some (.bool false, emptyBag, []) := by
  rw [app_fn E rfl h38 rfl]
  simp [c38, Act.enc, Act.cs]
theorem app13 (x : Act) : app E false (.fn 13 []) [x.enc] [] = some (.bool false, emptyBag, []) := by
  rw [app_fn E rfl h13 rfl]
  simp [c13, Act.enc, Act.cs]
theorem app39 (nl : Bool) (xs : List Flt) (hn : nl = true → xs = []) (hl : xs.length * 64 ≤ maxBytes) : app E false (.fn 39 []) [.lst none nl 15 (Fs xs)] [] = some (.lst none nl 15 (Fs xs), emptyBag, []) := by
  rw [app_fn E rfl h39 rfl]
  have hb := hl
  cases nl with
  | true =>
    have := hn rfl
    subst this
    simp [c39, fs_okns]
  | false =>
    simp [c39, fs_okns, hb, frzV, frzR]
end Go.Proofs.Ytbbpkkeaddbcnaa.ZJM.QS
