/- What OwnPut and FlatePut make, as bytes. Nothing of the program is walked here. -/
import Derived.Test.YtncidljdfipigaaDoorHq0
import Derived.Test.YtncidljdfipigaaDoorWFixed
namespace Go.Proofs.YtncidljdfipigaaDoor.Wi
open Go.RowKit Go.Proofs.YtncidljdfipigaaDoor.Mem Go.Proofs.YtncidljdfipigaaDoor.Bt Go.Proofs.YtncidljdfipigaaDoor.Cd Go.Proofs.YtncidljdfipigaaDoor.De Go.Proofs.YtncidljdfipigaaDoor.En Go.Proofs.YtncidljdfipigaaDoor.Lz Go.Proofs.YtncidljdfipigaaDoor.Hf
set_option linter.unusedVariables false
set_option linter.unusedSimpArgs false
def ownB (s : ByteArray) : ByteArray := if s.size ≤ 300 then strB (En.ownPut (chars s)) else ⟨#[]⟩
def flateB (s : ByteArray) : ByteArray := if s.size ≤ 300 then strB (En.flatePut (chars s)) else ⟨#[]⟩
/-- The shorter; the first, if they are as long. -/
def choose (a b : ByteArray) : ByteArray := if b.size < a.size then b else a
def pickTo (x y z : ByteArray) : Nat → ByteArray
  | 0 => x
  | 1 => choose x y
  | _ => choose (choose x y) z
theorem flate_pick (s : ByteArray) (h : s.size ≤ 300) : strB (En.flatePut (chars s)) = choose (choose (strB (En.store (chars s))) (strB (En.fixed (chars s)))) (strB (En.ownPut (chars s))) := by
  unfold choose En.flatePut
  by_cases h1 : (En.fixed (chars s)).length < (En.store (chars s)).length
  · by_cases h2 : (En.ownPut (chars s)).length < (En.fixed (chars s)).length
    · simp [strB_size, h1, h2]
    · simp [strB_size, h1, h2]
  · by_cases h2 : (En.ownPut (chars s)).length < (En.store (chars s)).length
    · simp [strB_size, h1, h2]
    · simp [strB_size, h1, h2]
theorem cntL_le (l : List Tok) : ∀ x ∈ cntL l, x ≤ 1 + l.length := by rw [← cntLTo_all]; exact cntLTo_le l _
theorem cntB_le {l : List Tok} (F : ∀ t ∈ l, Fine [] [] t) : ∀ x ∈ cntB l, x ≤ 1 + l.length := by
  intro x hx
  rw [cntB_is F] at hx
  split at hx
  · rcases List.mem_or_eq_of_mem_set hx with h | h
    · have := cntBTo_le l _ x h; omega
    · omega
  · have := cntBTo_le l _ x hx; omega
theorem trim_le {lens : List Nat} {m least : Nat} (h : ∀ x ∈ lens, x ≤ m) : ∀ x ∈ trim lens least, x ≤ m := fun x hx => h x (List.mem_of_mem_take hx)
theorem head_length (lit dist : List Nat) (hn : (lit ++ dist).length ≤ 316) (h15 : ∀ x ∈ lit ++ dist, x ≤ 15) (hne : lit ++ dist ≠ []) : (headBits lit dist).length ≤ 6000 := by
  have hM := ownMeta_ok h15 hne
  have h1 : (order.flatMap fun k => bitsOf ((ownMeta (lit ++ dist)).getD k 0) 3).length ≤ 19 * 3 := flat_len order _ (fun x => by rw [bits_length]; exact Nat.le_refl _)
  have h2 := flat_len (lit ++ dist) (enc (ownMeta (lit ++ dist))) (m := 15) (enc_length _ (fun x hx => by have := hM.le x hx; omega))
  have h3 : (lit ++ dist).length * 15 ≤ 316 * 15 := Nat.mul_le_mul_right _ hn
  unfold headBits
  simp only [List.length_append, bits_length] at *
  omega
end Go.Proofs.YtncidljdfipigaaDoor.Wi
