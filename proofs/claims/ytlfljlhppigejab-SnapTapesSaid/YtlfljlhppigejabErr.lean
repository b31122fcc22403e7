/-
  Strings of bytes, and errors by their numbers.
-/
import Derived.Test.YtlfljlhppigejabWords
import Derived.Test.YtlfljlhppigejabProg
import Derived.Lib.IndexBytes
namespace Go.Proofs.Ytlfljlhppigejab
open Go.RowKit

/-- A text of bytes. -/
def bstr (l : List UInt8) : ByteArray := ⟨l.toArray⟩
theorem bstr_list (l : List UInt8) : (bstr l).data.toList = l := by simp [bstr]
theorem bstr_size (l : List UInt8) : (bstr l).size = l.length := by simp [bstr, ByteArray.size]
theorem bstr_of (s : ByteArray) : bstr s.data.toList = s := by simp [bstr]
theorem bstr_inj {a b : List UInt8} (h : bstr a = bstr b) : a = b := by rw [← bstr_list a, h, bstr_list]
theorem strv {a b : ByteArray} (h : a = b) : Value.string a = .string b := by rw [h]
theorem extract_drop (s : ByteArray) (a : Nat) : s.extract a s.size = bstr (s.data.toList.drop a) := by
  rw [← bstr_of (s.extract a s.size), Lib.extract_to_end]
theorem drop_cons (s : ByteArray) (k : Nat) (h : k < s.size) : s.data.toList.drop k = s[k] :: s.data.toList.drop (k + 1) := by
  rw [List.drop_eq_getElem_cons (by simpa using h)]; rfl

/-- An error, by its number (0: none). -/
def errV (f : Nat) : Value := if f = 0 then .nilIface else .iface 112 (.int .i64 f)
theorem errV_zero : errV 0 = .nilIface := rfl
theorem errV_pos (f : Nat) (h : f ≠ 0) : errV f = .iface 112 (.int .i64 f) := by unfold errV; rw [if_neg h]
end Go.Proofs.Ytlfljlhppigejab
