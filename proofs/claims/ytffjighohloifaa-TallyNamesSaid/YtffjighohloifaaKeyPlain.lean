/- Verdicts and their keys, plainly. -/
import Derived.Test.YtffjighohloifaaBase
import Derived.Laws.BytesArg
import Derived.Laws.Concat
namespace Go.Proofs.Ytffjighohloifaa
open Go.RowKit

/-- A set of records. -/
structure SetV where
  name : ByteArray
  ty : Int
  cl : Int
  ttl : Int
  data : List ByteArray
/-- A verdict. -/
structure Verd where
  code : Int
  sets : List SetV
  soa : List SetV
def Verd.none : Verd := ⟨0, [], []⟩
abbrev strB (l : List UInt8) : Value := .string ⟨l.toArray⟩
/-- A number's two bytes, and what is put ahead of what it counts. -/
def twoB (n : Nat) : List UInt8 := [UInt8.ofNat (n / 256), UInt8.ofNat n]
def textB (s : ByteArray) : List UInt8 := twoB s.size ++ s.data.toList
def textsB (l : List ByteArray) : List UInt8 := twoB l.length ++ (l.map textB).flatten
def setB (s : SetV) : List UInt8 := s.name.data.toList ++ twoB s.ty.toNat ++ twoB s.cl.toNat ++ textsB s.data
def setsB (l : List SetV) : List UInt8 := UInt8.ofNat l.length :: (l.map setB).flatten
def keyB (v : Verd) : List UInt8 := UInt8.ofNat v.code.toNat :: setsB v.sets ++ setsB v.soa
theorem twoB_len (n : Nat) : (twoB n).length = 2 := rfl
theorem textB_len (s : ByteArray) : (textB s).length = 2 + s.size := by rw [textB, List.length_append, twoB_len]; rfl
theorem strOfNums_two (a b : Int) : strOfNums [a, b] = ⟨#[UInt8.ofNat a.toNat, UInt8.ofNat b.toNat]⟩ := rfl
theorem str_of_bytes (s : ByteArray) : Value.string s = strB s.data.toList := rfl
theorem add_bytes (x y : List UInt8) : (⟨x.toArray⟩ ++ ⟨y.toArray⟩ : ByteArray) = ⟨(x ++ y).toArray⟩ := ByteArray.mk_append_mk x y
theorem str_add_bytes (x : List UInt8) (s : ByteArray) : Value.string (⟨x.toArray⟩ ++ s) = strB (x ++ s.data.toList) := by
  show _ = Value.string ⟨(x ++ s.data.toList).toArray⟩
  rw [← add_bytes]
theorem str_cat (x : ByteArray) (a : List UInt8) : strB (x.data.toList ++ a) = Value.string (x ++ ⟨a.toArray⟩) := by
  show Value.string ⟨(x.data.toList ++ a).toArray⟩ = _
  rw [← add_bytes]
theorem data_cat (x : ByteArray) (a : List UInt8) : (x ++ ⟨a.toArray⟩ : ByteArray).data.toList = x.data.toList ++ a := by simp [ByteArray.data_append]
theorem size_bytes (x : List UInt8) : (⟨x.toArray⟩ : ByteArray).size = x.length := by simp [ByteArray.size]
theorem flatten_take_succ {α : Type} {β : Type} (f : α → List β) (l : List α) {k : Nat} (h : k < l.length) : ((l.take (k + 1)).map f).flatten = ((l.take k).map f).flatten ++ f l[k] := by
  rw [List.take_succ_eq_append_getElem h, List.map_append, List.flatten_append]; simp
theorem flatten_take_le {α : Type} {β : Type} (f : α → List β) (l : List α) (k : Nat) : ((l.take k).map f).flatten.length ≤ (l.map f).flatten.length := by
  conv => rhs; rw [← List.take_append_drop k l]
  rw [List.map_append, List.flatten_append, List.length_append]; omega
end Go.Proofs.Ytffjighohloifaa
