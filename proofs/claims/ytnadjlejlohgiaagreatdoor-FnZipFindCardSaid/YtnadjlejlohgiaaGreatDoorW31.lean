/- Own texts joined: WFixed, Ow. -/
import Derived.Test.YtnadjlejlohgiaaGreatDoorW9
import Derived.Test.YtnadjlejlohgiaaGreatDoorW23
import Derived.Test.YtnadjlejlohgiaaGreatDoorW25
import Derived.Test.YtnadjlejlohgiaaGreatDoorW27
import Derived.Test.YtnadjlejlohgiaaGreatDoorW29
/- What FixedPut does, in both programs: the plain packing by codes that all know. -/
namespace Go.Proofs.YtnadjlejlohgiaaGreatDoor.Wi
open Go.RowKit Go.Proofs.YtnadjlejlohgiaaGreatDoor.Mem Go.Proofs.YtnadjlejlohgiaaGreatDoor.Bt Go.Proofs.YtnadjlejlohgiaaGreatDoor.Cd Go.Proofs.YtnadjlejlohgiaaGreatDoor.De Go.Proofs.YtnadjlejlohgiaaGreatDoor.En Go.Proofs.YtnadjlejlohgiaaGreatDoor.Lz
set_option linter.unusedVariables false
set_option linter.unusedSimpArgs false
theorem text_chars {s : ByteArray} (h : s.size ≤ 300) : text [] (tokens (chars s)) = some (chars s) := text_tokens (chars_lt s) (by rw [chars_length]; exact h)
theorem tokens_size {s : ByteArray} (h : s.size ≤ 300) : (tokens (chars s)).length ≤ 300 := by
  have := tokens_length (chars s)
  rw [chars_length] at this; omega
set_option maxRecDepth 100000 in
theorem sknown_calls (s : ByteArray) (h : s.size ≤ 300) (w : World) :
    Calls Tryz.prog 133 #[.string s] w (Tells w (.string (strB (En.fixed (chars s))))) := by
  have htx := text_chars h
  have htl := tokens_size h
  have HR : RowKit.Hid (strB (En.fixed (chars s)) = strB (pack (pad (fixBits (chars s))))) := Lib.hid (by rw [pack_pad]; rfl)
  have HTX := Lib.hid htx
  clear htx
  go_enter Tryz.func133, Tryz.ntmps133
  go_wp2_with fail
  refine (sput_calls _ _ [] 1 1 _ (sw_new w) (by omega) (by simp) (by omega)).mono ?_
  rintro e w1 ⟨r1, rfl, hw1, M1⟩
  have hr0 : w.heap.size < (w.alloc (.cells #[.slice none 0 0, .int .i64 0, .int .i64 0] 153)).heap.size := (Blk.new w _ _).lt
  have hr1 := M1.lt hr0
  obtain ⟨O1, hb1⟩ := M1.on ((On.refl w).alloc _) (Nat.le_refl _) (Nat.le_refl _)
  go_wp2_with fail
  refine (sput_calls _ _ _ 1 2 w1 hw1 (by omega) (by simp [bitsOf]) (by omega)).mono ?_
  rintro e w2 ⟨r2, rfl, hw2, M2⟩
  have hr2 := M2.lt hr1
  obtain ⟨O2, hb2⟩ := M2.on O1 (Nat.le_refl _) hb1
  have hg2 := hw2.glt
  go_wp2_with fail
  refine (stoks_calls s h w2).mono ?_
  rintro e w3 ⟨q, cq, rfl, Rq, hq1, hq2, hq3, O3⟩
  generalize hn : (tokens (chars s)).length = n at *
  have HNN := Lib.hid hn
  clear hn
  have hz3 := O3.size
  go_wp2_with fail
  refine (sfixed_calls w3).mono ?_
  rintro e w4 ⟨ra, ca, rfl, Na, ha1, ha2, O4⟩
  have hz4 := O4.size
  go_wp2_with fail
  refine (sfives_calls w4).mono ?_
  rintro e w5 ⟨rb, cb, rfl, Nb, hb3, hb4, O5⟩
  have O45 := O4.call O5
  have O35 := O3.call O45
  have hz5 := O35.size
  have hca : 288 ≤ ca := by have := Na.row.2.2.1; rw [fixLit_length] at this; exact this
  have hcb : 32 ≤ cb := by have := Nb.row.2.2.1; rw [fixDist_length] at this; exact this
  have hc := stokens_calls w.heap.size r2 q n cq ra 0 288 ca rb 0 32 cb _ (tokens (chars s)) fixLit fixDist w5 (hw2.on O35) (by omega) (by simp [bitsOf]) (Rq.on O45) ((Na.on O5).row.1.toO) (Nb.row.1.toO) HNN.out (by omega) hq1 fixLit_length fixDist_length hca hcb (by omega) (by omega)
    (fixed_has HTX.out) (fine_of HTX.out) (not_in (by omega) (by omega)) (not_in (by omega) (by omega)) (not_in (by omega) (by omega))
  have HC := Lib.hid hc
  clear hc
  rw [show fixLit.length = 288 from fixLit_length, show fixDist.length = 32 from fixDist_length]
  go_wp2_with fail
  refine HC.out.mono ?_
  rintro e w6 ⟨r6, rfl, hw6, M6⟩
  obtain ⟨O6, hb6⟩ := M6.on (O2.call O35) (Nat.le_refl _) hb2
  have hw7 : SW w6 w.heap.size r6 (fixBits (chars s)) := hw6
  have hfb := (fixBits_length (chars_lt s) (by rw [chars_length]; exact h)).2.1
  rw [chars_length] at hfb
  have hwh := whole_calls w.heap.size r6 (fixBits (chars s)) w6 hw7 (by omega)
  have HWH := Lib.hid hwh
  clear hwh hfb
  go_wp2_with fail
  refine HWH.out.mono ?_
  rintro e w8 ⟨r8, rfl, hw8, M8⟩
  obtain ⟨O8, hb8⟩ := M8.on O6 (Nat.le_refl _) hb6
  obtain ⟨v, c0, hconv⟩ := hw8.text (by rw [pad_length]; omega)
  clear hw1 hw2 hw6 hw7 hw8
  go_wp2_with fail
  go_ret
  exact ⟨by rw [HR.out]; rfl, O8⟩
end Go.Proofs.YtnadjlejlohgiaaGreatDoor.Wi

/- What OwnPut and FlatePut make, as bytes. Nothing of the program is walked here. -/
namespace Go.Proofs.YtnadjlejlohgiaaGreatDoor.Wi
open Go.RowKit Go.Proofs.YtnadjlejlohgiaaGreatDoor.Mem Go.Proofs.YtnadjlejlohgiaaGreatDoor.Bt Go.Proofs.YtnadjlejlohgiaaGreatDoor.Cd Go.Proofs.YtnadjlejlohgiaaGreatDoor.De Go.Proofs.YtnadjlejlohgiaaGreatDoor.En Go.Proofs.YtnadjlejlohgiaaGreatDoor.Lz Go.Proofs.YtnadjlejlohgiaaGreatDoor.Hf
set_option linter.unusedVariables false
set_option linter.unusedSimpArgs false
def flateB (s : ByteArray) : ByteArray := if s.size ≤ 300 then strB (En.flatePut (chars s)) else ⟨#[]⟩
/-- The shorter; the first, if they are as long. -/
def choose (a b : ByteArray) : ByteArray := if b.size < a.size then b else a
def pickTo (x y z : ByteArray) : Nat → ByteArray
  | 0 => x
  | 1 => choose x y
  | _ => choose (choose x y) z
theorem flate_pick (s : ByteArray) (h : s.size ≤ 300) : strB (En.flatePut (chars s)) = choose (choose (strB (En.store (chars s))) (strB (En.fixed (chars s)))) (strB (En.ownPut (chars s))) := by
  unfold choose En.flatePut
  by_cases h1 : (En.fixed (chars s)).length < (En.store (chars s)).length
  · by_cases h2 : (En.ownPut (chars s)).length < (En.fixed (chars s)).length
    · simp [strB_size, h1, h2]
    · simp [strB_size, h1, h2]
  · by_cases h2 : (En.ownPut (chars s)).length < (En.store (chars s)).length
    · simp [strB_size, h1, h2]
    · simp [strB_size, h1, h2]
theorem cntL_le (l : List Tok) : ∀ x ∈ cntL l, x ≤ 1 + l.length := by rw [← cntLTo_all]; exact cntLTo_le l _
theorem cntB_le {l : List Tok} (F : ∀ t ∈ l, Fine [] [] t) : ∀ x ∈ cntB l, x ≤ 1 + l.length := by
  intro x hx
  rw [cntB_is F] at hx
  split at hx
  · rcases List.mem_or_eq_of_mem_set hx with h | h
    · have := cntBTo_le l _ x h; omega
    · omega
  · have := cntBTo_le l _ x hx; omega
theorem trim_le {lens : List Nat} {m least : Nat} (h : ∀ x ∈ lens, x ≤ m) : ∀ x ∈ trim lens least, x ≤ m := fun x hx => h x (List.mem_of_mem_take hx)
theorem head_length (lit dist : List Nat) (hn : (lit ++ dist).length ≤ 316) (h15 : ∀ x ∈ lit ++ dist, x ≤ 15) (hne : lit ++ dist ≠ []) : (headBits lit dist).length ≤ 6000 := by
  have hM := ownMeta_ok h15 hne
  have h1 : (order.flatMap fun k => bitsOf ((ownMeta (lit ++ dist)).getD k 0) 3).length ≤ 19 * 3 := flat_len order _ (fun x => by rw [bits_length]; exact Nat.le_refl _)
  have h2 := flat_len (lit ++ dist) (enc (ownMeta (lit ++ dist))) (m := 15) (enc_length _ (fun x hx => by have := hM.le x hx; omega))
  have h3 : (lit ++ dist).length * 15 ≤ 316 * 15 := Nat.mul_le_mul_right _ hn
  unfold headBits
  simp only [List.length_append, bits_length] at *
  omega
end Go.Proofs.YtnadjlejlohgiaaGreatDoor.Wi

