/- What StorePut does, in both programs: the plain packing of a text as it is. Conditions: sizes. -/
import Derived.Test.YtncidljdfipigaaDoorWs
import Derived.Test.YtncidljdfipigaaDoorTx
import Derived.Test.YtncidljdfipigaaDoorEn
namespace Go.Proofs.YtncidljdfipigaaDoor.Wi
open Go.RowKit Go.Proofs.YtncidljdfipigaaDoor.Mem Go.Proofs.YtncidljdfipigaaDoor.Bt
set_option linter.unusedVariables false
set_option linter.unusedSimpArgs false
def storeB (s : ByteArray) : ByteArray := if s.size ≤ 300 then strB (En.store (chars s)) else ⟨#[]⟩
theorem iw_new (w : World) : IW (w.alloc (.cells #[.slice none 0 0, .int .i64 0] 50)) w.heap.size w.heap.size [] :=
  ⟨.slice none 0 0, Blk.new w _ _, ⟨World.ownsRow_nil _ _ _ _, fun k hk => by simp [Value.ownBlock] at hk⟩, .inr rfl⟩
theorem sw_new (w : World) : SW (w.alloc (.cells #[.slice none 0 0, .int .i64 0, .int .i64 0] 88)) w.heap.size w.heap.size [] :=
  ⟨.slice none 0 0, Blk.new w _ _, ⟨World.ownsRow_nil _ _ _ _, fun k hk => by simp [Value.ownBlock] at hk⟩, .inr rfl⟩
/-- What a writer that a call made itself leaves. -/
theorem Mv.on {g r r' : Nat} {a w w' : World} (h : Mv g r w r' w') (O : On a w) (hg : a.heap.size ≤ g) (hr : a.heap.size ≤ r) : On a w' ∧ a.heap.size ≤ r' := by
  refine ⟨h.kp.on O (fun x hx => ?_), ?_⟩
  · simp only [List.mem_cons, List.not_mem_nil, or_false] at hx
    rcases hx with rfl | rfl <;> assumption
  · have := O.size
    rcases h.at_ with e | e <;> omega
theorem IW.text {w : World} {g r : Nat} {bs : List Bool} (h : IW w g r bs) : ∃ v, w.cell? ⟨g, 0, none⟩ = some v ∧ (convert 22 9 v).run Tryd.prog w = .ok (.string (strB (pack bs))) w := by
  obtain ⟨v, hb, hy, _⟩ := h.out
  exact ⟨v, (hb.cell 0).trans rfl, bytes_conv hy⟩
theorem SW.text {w : World} {g r : Nat} {bs : List Bool} (h : SW w g r bs) (h8 : bs.length % 8 = 0) : ∃ v, w.cell? ⟨g, 0, none⟩ = some v ∧ (convert 22 9 v).run Tryd.prog w = .ok (.string (strB (pack bs))) w := by
  obtain ⟨v, hb, hy, _⟩ := h.out
  rw [show 8 * (bs.length / 8) = bs.length from by omega, List.take_length] at hy
  exact ⟨v, (hb.cell 0).trans rfl, bytes_conv hy⟩
theorem Bt.lenn (n num : Nat) : (bitsOf num n).length = n := bits_length n num
theorem store_text (s : ByteArray) : strB (pack (En.storeBits s.size)) ++ s = strB (En.store (chars s)) := by
  rw [strB_app]; unfold En.store; rw [chars_length]
theorem store_bits8 (n : Nat) : (En.storeBits n).length % 8 = 0 := by rw [En.storeBits_length]
set_option maxRecDepth 100000 in
theorem istore_calls (s : ByteArray) (w : World) :
    Calls Tryd.prog 22 #[.string s] w (Tells w (.string (storeB s))) := by
  by_cases h : s.size ≤ 300
  · have h' : (s.size : Int) ≤ 300 := by omega
    have HR : RowKit.Hid (storeB s = strB (pack (En.storeBits s.size)) ++ s) := Lib.hid (by unfold storeB; rw [if_pos h, store_text])
    go_enter Tryd.func22, Tryd.ntmps22
    go_wp2_with fail
    refine (put_calls _ _ [] 1 3 _ (iw_new w) (by omega) (by simp) (by omega)).mono ?_
    rintro e w1 ⟨r1, rfl, hw1, M1⟩
    obtain ⟨O1, hr1⟩ := M1.on ((On.refl w).alloc _) (Nat.le_refl _) (Nat.le_refl _)
    go_wp2_with fail
    refine (even_calls _ _ _ w1 hw1 (by simp [bitsOf])).mono ?_
    rintro e w2 ⟨rfl, hw2, M2⟩
    obtain ⟨O2, hr2⟩ := M2.on O1 (Nat.le_refl _) hr1
    go_wp2_with fail
    refine (put_calls _ _ _ s.size 16 w2 hw2 (by omega) (by rw [pad_length]; simp [bitsOf]) (by omega)).mono ?_
    rintro e w3 ⟨r3, rfl, hw3, M3⟩
    obtain ⟨O3, hr3⟩ := M3.on O2 (Nat.le_refl _) hr2
    go_wp2_with fail
    rw [show (65535 : Int) - (s.size : Int) = ((65535 - s.size : Nat) : Int) from by omega]
    refine (put_calls _ _ _ (65535 - s.size) 16 w3 hw3 (by omega) (by rw [List.length_append, pad_length, bits_length]; simp [bitsOf]) (by omega)).mono ?_
    rintro e w4 ⟨r4, rfl, hw4, M4⟩
    obtain ⟨O4, hr4⟩ := M4.on O3 (Nat.le_refl _) hr3
    have hw5 : IW w4 w.heap.size r4 (En.storeBits s.size) := hw4
    obtain ⟨v, c0, hconv⟩ := hw5.text
    have hcat : ¬ (9223372036854775807 < (strB (pack (En.storeBits s.size))).size + s.size) := by rw [strB_size, pack_length, En.storeBits_length]; omega
    clear hw1 hw2 hw3 hw4 hw5
    go_wp2_with fail
    go_ret
    exact ⟨by rw [HR.out]; rfl, O4⟩
  · have h' : (300 : Int) < s.size := by omega
    have HR : RowKit.Hid (storeB s = ⟨#[]⟩) := Lib.hid (by unfold storeB; rw [if_neg h])
    go_enter Tryd.func22, Tryd.ntmps22
    go_wp2_with fail
    go_ret
    exact ⟨by rw [HR.out]; rfl, On.refl _⟩
set_option maxRecDepth 100000 in
theorem sstore_calls (s : ByteArray) (w : World) (h : s.size ≤ 300) :
    Calls Tryd.prog 50 #[.string s] w (Tells w (.string (strB (En.store (chars s))))) := by
  have h' : (s.size : Int) ≤ 300 := by omega
  have HR : RowKit.Hid (strB (En.store (chars s)) = strB (pack (En.storeBits s.size)) ++ s) := Lib.hid (by rw [store_text])
  go_enter Tryd.func50, Tryd.ntmps50
  go_wp2_with fail
  refine (sput_calls _ _ [] 1 1 _ (sw_new w) (by omega) (by simp) (by omega)).mono ?_
  rintro e w1 ⟨r1, rfl, hw1, M1⟩
  obtain ⟨O1, hr1⟩ := M1.on ((On.refl w).alloc _) (Nat.le_refl _) (Nat.le_refl _)
  go_wp2_with fail
  refine (sput_calls _ _ _ 0 2 w1 hw1 (by omega) (by simp [bitsOf]) (by omega)).mono ?_
  rintro e w2 ⟨r2, rfl, hw2, M2⟩
  obtain ⟨O2, hr2⟩ := M2.on O1 (Nat.le_refl _) hr1
  have hw2' : SW w2 w.heap.size r2 (bitsOf 1 3) := hw2
  go_wp2_with fail
  refine (whole_calls _ _ _ w2 hw2' (by simp [bitsOf])).mono ?_
  rintro e w3 ⟨r3, rfl, hw3, M3⟩
  obtain ⟨O3, hr3⟩ := M3.on O2 (Nat.le_refl _) hr2
  go_wp2_with fail
  refine (sput_calls _ _ _ s.size 16 w3 hw3 (by omega) (by rw [pad_length]; simp [bitsOf]) (by omega)).mono ?_
  rintro e w4 ⟨r4, rfl, hw4, M4⟩
  obtain ⟨O4, hr4⟩ := M4.on O3 (Nat.le_refl _) hr3
  go_wp2_with fail
  rw [show (65535 : Int) - (s.size : Int) = ((65535 - s.size : Nat) : Int) from by omega]
  refine (sput_calls _ _ _ (65535 - s.size) 16 w4 hw4 (by omega) (by rw [List.length_append, pad_length, bits_length]; simp [bitsOf]) (by omega)).mono ?_
  rintro e w5 ⟨r5, rfl, hw5, M5⟩
  obtain ⟨O5, hr5⟩ := M5.on O4 (Nat.le_refl _) hr4
  have hw6 : SW w5 w.heap.size r5 (En.storeBits s.size) := hw5
  obtain ⟨v, c0, hconv⟩ := hw6.text (store_bits8 _)
  have hcat : ¬ (9223372036854775807 < (strB (pack (En.storeBits s.size))).size + s.size) := by rw [strB_size, pack_length, En.storeBits_length]; omega
  clear hw1 hw2 hw3 hw4 hw5 hw6 hw2'
  go_wp2_with fail
  go_ret
  exact ⟨by rw [HR.out]; rfl, O5⟩
set_option maxRecDepth 100000 in
theorem sput_store_calls (s : ByteArray) (w : World) :
    Calls Tryd.prog 23 #[.string s] w (Tells w (.string (storeB s))) := by
  by_cases h : s.size ≤ 300
  · have h' : (s.size : Int) ≤ 300 := by omega
    have HR : RowKit.Hid (storeB s = strB (En.store (chars s))) := Lib.hid (by unfold storeB; rw [if_pos h])
    go_enter Tryd.func23, Tryd.ntmps23
    go_wp2_with fail
    refine (sstore_calls s w h).mono ?_
    rintro e w1 ⟨rfl, O1⟩
    go_wp2_with fail
    go_ret
    exact ⟨by rw [HR.out]; rfl, O1⟩
  · have h' : (300 : Int) < s.size := by omega
    have HR : RowKit.Hid (storeB s = ⟨#[]⟩) := Lib.hid (by unfold storeB; rw [if_neg h])
    go_enter Tryd.func23, Tryd.ntmps23
    go_wp2_with fail
    go_ret
    exact ⟨by rw [HR.out]; rfl, On.refl _⟩
end Go.Proofs.YtncidljdfipigaaDoor.Wi
