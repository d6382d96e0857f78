/- Texts as lists of numbers, and how they lie in memory as strings. -/
import Derived.Test.YtpbfhflggicpiaaDoorWr
import Derived.Laws.BytesArg
namespace Go.Proofs.YtpbfhflggicpiaaDoor.Mem
open Go.RowKit
set_option linter.unusedVariables false
/-- The bytes of a text as numbers; a text of numbers. -/
def chars (s : ByteArray) : List Nat := s.data.toList.map fun b => b.toNat
def strB (l : List Nat) : ByteArray := ⟨(l.map fun n => UInt8.ofNat n).toArray⟩
theorem chars_length (s : ByteArray) : (chars s).length = s.size := by unfold chars; rw [List.length_map, Array.length_toList]; rfl
theorem chars_lt (s : ByteArray) : ∀ x ∈ chars s, x < 256 := by
  intro x hx
  obtain ⟨b, _, rfl⟩ := List.mem_map.1 hx
  exact b.toNat_lt
theorem strB_size (l : List Nat) : (strB l).size = l.length := by simp [strB, ByteArray.size]
theorem strB_chars (s : ByteArray) : strB (chars s) = s := by
  unfold strB chars
  rw [List.map_map]
  have : s.data.toList.map ((fun n : Nat => UInt8.ofNat n) ∘ fun b : UInt8 => b.toNat) = s.data.toList := by
    conv => rhs; rw [← List.map_id s.data.toList]
    exact List.map_congr_left fun b _ => by simp
  rw [this]
theorem chars_strB {l : List Nat} (h : ∀ x ∈ l, x < 256) : chars (strB l) = l := by
  unfold strB chars
  simp only [List.map_map]
  conv => rhs; rw [← List.map_id l]
  refine List.map_congr_left fun b hb => ?_
  have := h b hb
  simp; omega
theorem chars_ext {s t : ByteArray} (h : chars s = chars t) : s = t := by rw [← strB_chars s, ← strB_chars t, h]
theorem strB_inj {a b : List Nat} (ha : ∀ x ∈ a, x < 256) (hb : ∀ x ∈ b, x < 256) (h : strB a = strB b) : a = b := by rw [← chars_strB ha, ← chars_strB hb, h]
theorem strB_append (a b : List Nat) : strB a ++ strB b = strB (a ++ b) := by
  unfold strB
  simp [ByteArray.ext_iff, ByteArray.data_append]
theorem strB_app (a : List Nat) (s : ByteArray) : strB a ++ s = strB (a ++ chars s) := by rw [← strB_append, strB_chars]
theorem strB_nil : strB [] = ⟨#[]⟩ := rfl
theorem chars_at (s : ByteArray) {i : Nat} (h : i < s.size) : (chars s).getD i 0 = s[i].toNat := by
  unfold chars
  rw [List.getD_eq_getElem?_getD, List.getElem?_map, List.getElem?_eq_getElem (by rw [Array.length_toList]; exact h)]; rfl
theorem bytes_conv {w : World} {r : Nat} {v : Value} {l : List Nat} (h : Bytes w r v l) : (convert 23 9 v).run Tryd.prog w = .ok (.string (strB l)) w := by
  have e : (⟨((l.map fun n : Nat => (n : Int)).map fun n : Int => UInt8.ofNat n.toNat).toArray⟩ : ByteArray) = strB l := by
    unfold strB; rw [List.map_map]; rfl
  rcases h.slice with ⟨rfl, rfl⟩ | ⟨cap, rfl, h1, h2⟩
  · exact run_convert_bytes_nil w 23 5 Tryd.underlying23 Tryd.underlying5 0 0 9 Tryd.underlying9
  · rw [← e]
    refine run_convert_bytes_arg w 23 5 Tryd.underlying23 Tryd.underlying5 r 0 l.length cap (l.map fun n : Nat => (n : Int)) (by simp) (fun i hi => ?_) 9 Tryd.underlying9
    have hi' : i < l.length := by simpa using hi
    have hc := h.own.cells (g := r) rfl i (.int .u8 (l.getD i 0 : Nat)) (u8s_get hi')
    have ha : (⟨r, 0, none⟩ : Addr).add i = ⟨r, 0 + i, none⟩ := by unfold Addr.add; split <;> simp_all
    rw [ha] at hc
    rw [hc, List.getD_eq_getElem?_getD, List.getD_eq_getElem?_getD, List.getElem?_map]
    rw [List.getElem?_eq_getElem hi']; rfl
end Go.Proofs.YtpbfhflggicpiaaDoor.Mem
