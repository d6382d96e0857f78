/- The walks of FnStore, FnStoreBad, FnStoreTwo, FnFixed: at every input they return true and keep what was. The one fact that they take: order as it is laid. -/
import Derived.Test.YtncidljdfipigaaDoorRf
import Derived.Test.YtncidljdfipigaaDoorDrawT
import Derived.Test.YtncidljdfipigaaDoorEn3
import Derived.Test.YtncidljdfipigaaDoorWStore
import Derived.Test.YtncidljdfipigaaDoorWFixed
import Derived.BigRegion
import Derived.Lib.IndexBytes
namespace Go.Proofs.YtncidljdfipigaaDoor.Wi
open Go.RowKit Go.Proofs.YtncidljdfipigaaDoor.Mem Go.Proofs.YtncidljdfipigaaDoor.Bt Go.Proofs.YtncidljdfipigaaDoor.Cd Go.Proofs.YtncidljdfipigaaDoor.De Go.Proofs.YtncidljdfipigaaDoor.En Go.Proofs.YtncidljdfipigaaDoor.Draw
set_option linter.unusedVariables false
set_option linter.unusedSimpArgs false
theorem Ord.on {w w' : World} {x : Addr} (h : Ord w x) (O : On w w') : Ord w' x := h.kp (Kp.of [] O) (by simp) (by simp)
theorem store_lt {t : List Nat} (h : ∀ x ∈ t, x < 256) : ∀ x ∈ En.store t, x < 256 := by
  intro x hx
  rcases List.mem_append.1 hx with hx | hx
  · exact pack_lt _ x hx
  · exact h x hx
theorem chars_store {s : ByteArray} (h : s.size ≤ 300) : chars (storeB s) = En.store (chars s) := by
  unfold storeB
  rw [if_pos h]
  exact chars_strB (store_lt (chars_lt s))
theorem chars_fixed {s : ByteArray} (h : s.size ≤ 300) : chars (fixedB s) = fixed (chars s) := by
  unfold fixedB
  rw [if_pos h]
  exact chars_strB (pack_lt _)
theorem storeB_size {s : ByteArray} (h : s.size ≤ 300) : (storeB s).size = s.size + 5 := by
  rw [← chars_length, chars_store h, store_length, chars_length]
theorem not_empty {y : ByteArray} (h : 0 < y.size) : y.toList.isEmpty = false := by
  have hl : y.toList.length = y.size := by rw [ByteArray.toList_eq, Array.length_toList]; rfl
  cases hd : y.toList with
  | nil => rw [hd] at hl; simp at hl; omega
  | cons _ _ => rfl
theorem bits_bent : ∀ b : Nat, b < 256 → Go.bits .xor .u8 (b : Int) 4 = ((b ^^^ 4 : Nat) : Int) := by decide +kernel
theorem By.one (w : World) (v : Nat) : By (w.alloc (.cells #[.int .u8 (v : Int)] 5)) w.heap.size 1 [v] := by
  refine ⟨⟨?_, fun g hg => by simp [Value.ownBlock] at hg; exact hg.symm⟩⟩
  exact World.ownsRow_lit w (base := 0) (e := 5) (size := 1) #[.int .u8 (v : Int)] 1 (Nat.zero_le _) (by unfold maxLen; omega) (by simp)
theorem got_none {x : ByteArray} (h : flate (chars x) = none) : gotOf x = .tuple #[.string ⟨#[]⟩, .int .i64 0, .bool false] := by
  unfold gotOf
  rw [h]
theorem chars_append (a b : ByteArray) : chars (a ++ b) = chars a ++ chars b := by
  unfold chars
  rw [ByteArray.data_append, Array.toList_append, List.map_append]
theorem chars_head (y : ByteArray) (q : Nat) : chars (y.extract 0 q) = (chars y).take q := by
  unfold chars
  rw [Lib.extract_data, List.map_take]
  simp
theorem chars_tail (y : ByteArray) (q : Nat) : chars (y.extract q y.size) = (chars y).drop q := by
  unfold chars
  rw [Lib.extract_to_end, List.map_drop]
theorem got_of {x s : ByteArray} {n : Nat} (h : flate (chars x) = some (chars s, n)) : gotOf x = .tuple #[.string s, .int .i64 (n : Int), .bool true] := by
  unfold gotOf
  rw [h]
  simp only []
  rw [strB_chars]
theorem got_store {s : ByteArray} (h : s.size ≤ 300) : gotOf (storeB s) = .tuple #[.string s, .int .i64 ((s.size + 5 : Nat) : Int), .bool true] := by
  refine got_of ?_
  rw [chars_store h, store_flate (chars_lt s) (by rw [chars_length]; exact h), store_length, chars_length]
theorem got_fixed {s : ByteArray} (h : s.size ≤ 300) : gotOf (fixedB s) = .tuple #[.string s, .int .i64 ((fixedB s).size : Int), .bool true] := by
  refine got_of ?_
  have hl := fixed_length (chars_lt s) (by rw [chars_length]; exact h)
  rw [chars_fixed h, fixed_flate (chars_lt s) (by rw [chars_length]; exact h) (by omega), ← chars_length (fixedB s), chars_fixed h]
theorem head_kind {l : List Nat} {b : Bool} {k : Nat} {r : List Bool} (hk : k < 4) (h : unpack l = b :: (bitsOf k 2 ++ r)) : l.getD 0 0 / 2 % 4 = k := by
  cases l with
  | nil => cases h
  | cons y t =>
    have e : unpack (y :: t) = (y % 2 == 1) :: (y / 2 % 2 == 1) :: (y / 2 / 2 % 2 == 1) :: ((bitsOf (y / 2 / 2 / 2) 5) ++ unpack t) := rfl
    have e2 : bitsOf k 2 = [k % 2 == 1, k / 2 % 2 == 1] := rfl
    rw [e, e2] at h
    simp only [List.cons.injEq, List.cons_append] at h
    obtain ⟨_, h1, h2, _⟩ := h
    have h1' : (y / 2 % 2 = 1) ↔ (k % 2 = 1) := by have := congrArg (· = true) h1; simpa using this
    have h2' : (y / 2 / 2 % 2 = 1) ↔ (k / 2 % 2 = 1) := by have := congrArg (· = true) h2; simpa using this
    show y / 2 % 4 = k
    omega
theorem kind_store {s : ByteArray} (h : s.size ≤ 300) : kindOf (chars (storeB s)) = 0 := by
  unfold kindOf
  rw [chars_store h, store_flate (chars_lt s) (by rw [chars_length]; exact h)]
  simp only []
  rw [head_kind (k := 0) (by omega) unpack_store]; rfl
theorem kind_fixed {s : ByteArray} (h : s.size ≤ 300) : kindOf (chars (fixedB s)) = 1 := by
  unfold kindOf
  have hl := fixed_length (chars_lt s) (by rw [chars_length]; exact h)
  rw [chars_fixed h, fixed_flate (chars_lt s) (by rw [chars_length]; exact h) (by omega)]
  simp only []
  rw [head_kind (k := 1) (by omega) (fixed_bits _)]; rfl
set_option maxRecDepth 100000 in
theorem law_flstore (a0 : Option Addr) (len0 cap0 : Nat) (z0 : List Int) (w : World) (hx : ∃ x, Ord w x) (w0 : (a0 = none ∧ len0 = 0 ∧ cap0 = 0 ∧ z0 = []) ∨ ∃ x, a0 = some x ∧ len0 ≤ cap0 ∧ cap0 ≤ maxLen ∧ z0.length = cap0 ∧ (∀ i, i < z0.length → w.cell? (x.add i) = some (.int .u8 (z0.getD i 0))) ∧ ∀ n ∈ z0, (Lit.int .u8 n).wf = true) :
    Calls Tryd.prog 4 #[.slice a0 len0 cap0] w (Tells w (.bool true)) := by
  obtain ⟨x, hO⟩ := hx
  by_cases hb : (1048576 : Int) < len0
  · go_enter Tryd.func4, Tryd.ntmps4
    go_wp2_with fail
    go_ret
    exact ⟨rfl, On.refl _⟩
  have hb' : (len0 : Int) ≤ 1048576 := by omega
  go_enter Tryd.func4, Tryd.ntmps4
  go_wp2_with fail
  refine (drawstore_calls a0 len0 cap0 z0 w w0).mono ?_
  rintro e w1 ⟨s, hs, rfl, O⟩
  clear hs
  go_wp2_with fail
  refine (istore_calls s w1).mono ?_
  rintro e w2 ⟨rfl, O2⟩
  replace O := O.call O2
  go_wp2_with fail
  refine (sput_store_calls s w2).mono ?_
  rintro e w3 ⟨rfl, O3⟩
  replace O := O.call O3
  by_cases h3 : s.size ≤ 300
  · have hs2 := storeB_size h3
    have HG := Lib.hid (got_store h3)
    have HK := Lib.hid (kind_store h3)
    have HF := Lib.hid (flateget_calls x (storeB s) w3 (hO.on O))
    have h3' : (s.size : Int) ≤ 300 := by omega
    generalize hx : storeB s = y at *
    go_wp2_with fail
    refine HF.out.mono ?_
    rintro e w4 ⟨rfl, O4⟩
    replace O := O.call O4
    rw [HG.out]
    have HK2 := Lib.hid (flatekind_calls x y w4 (hO.on O))
    have e5 : IntKind.i64.wrap ((s.size : Int) + 5) = ((s.size + 5 : Nat) : Int) := by rw [IntKind.wrap_i64]; omega
    have e6 : ((s.size + 5 : Nat) : Int) = (y.size : Int) := by omega
    go_wp2_with fail
    refine HK2.out.mono ?_
    rintro e w5 ⟨rfl, O5⟩
    rw [HK.out]
    go_wp2_with fail
    go_ret
    exact ⟨rfl, O.call O5⟩
  · have h3' : (300 : Int) < s.size := by omega
    go_wp2_with fail
    refine (sput_store_calls s w3).mono ?_
    rintro e w4 ⟨rfl, O4⟩
    go_wp2_with fail
    go_ret
    exact ⟨by simp, O.call O4⟩
set_option maxRecDepth 100000 in
theorem law_flfixed (a0 : Option Addr) (len0 cap0 : Nat) (z0 : List Int) (w : World) (hx : ∃ x, Ord w x) (w0 : (a0 = none ∧ len0 = 0 ∧ cap0 = 0 ∧ z0 = []) ∨ ∃ x, a0 = some x ∧ len0 ≤ cap0 ∧ cap0 ≤ maxLen ∧ z0.length = cap0 ∧ (∀ i, i < z0.length → w.cell? (x.add i) = some (.int .u8 (z0.getD i 0))) ∧ ∀ n ∈ z0, (Lit.int .u8 n).wf = true) :
    Calls Tryd.prog 9 #[.slice a0 len0 cap0] w (Tells w (.bool true)) := by
  obtain ⟨x, hO⟩ := hx
  by_cases hb : (1048576 : Int) < len0
  · go_enter Tryd.func9, Tryd.ntmps9
    go_wp2_with fail
    go_ret
    exact ⟨rfl, On.refl _⟩
  have hb' : (len0 : Int) ≤ 1048576 := by omega
  go_enter Tryd.func9, Tryd.ntmps9
  go_wp2_with fail
  refine (drawfixed_calls a0 len0 cap0 z0 w w0).mono ?_
  rintro e w1 ⟨s, hs, rfl, O⟩
  clear hs
  go_wp2_with fail
  refine (ifixedput_calls s w1).mono ?_
  rintro e w2 ⟨rfl, O2⟩
  replace O := O.call O2
  go_wp2_with fail
  refine (sfixedput_calls s w2).mono ?_
  rintro e w3 ⟨rfl, O3⟩
  replace O := O.call O3
  by_cases h3 : s.size ≤ 300
  · have HG := Lib.hid (got_fixed h3)
    have HK := Lib.hid (kind_fixed h3)
    have HF := Lib.hid (flateget_calls x (fixedB s) w3 (hO.on O))
    have h3' : (s.size : Int) ≤ 300 := by omega
    generalize hx : fixedB s = y at *
    go_wp2_with fail
    refine HF.out.mono ?_
    rintro e w4 ⟨rfl, O4⟩
    replace O := O.call O4
    rw [HG.out]
    have HK2 := Lib.hid (flatekind_calls x y w4 (hO.on O))
    go_wp2_with fail
    refine HK2.out.mono ?_
    rintro e w5 ⟨rfl, O5⟩
    rw [HK.out]
    go_wp2_with fail
    go_ret
    exact ⟨rfl, O.call O5⟩
  · have h3' : (300 : Int) < s.size := by omega
    go_wp2_with fail
    refine (sfixedput_calls s w3).mono ?_
    rintro e w4 ⟨rfl, O4⟩
    go_wp2_with fail
    go_ret
    exact ⟨by simp, O.call O4⟩
set_option maxRecDepth 100000 in
theorem law_flbad (a0 : Option Addr) (len0 cap0 : Nat) (z0 : List Int) (a1 : Option Addr) (len1 cap1 : Nat) (z1 : List Int) (w : World) (hx : ∃ x, Ord w x) (w0 : (a0 = none ∧ len0 = 0 ∧ cap0 = 0 ∧ z0 = []) ∨ ∃ x, a0 = some x ∧ len0 ≤ cap0 ∧ cap0 ≤ maxLen ∧ z0.length = cap0 ∧ (∀ i, i < z0.length → w.cell? (x.add i) = some (.int .u8 (z0.getD i 0))) ∧ ∀ n ∈ z0, (Lit.int .u8 n).wf = true)
    (w1 : (a1 = none ∧ len1 = 0 ∧ cap1 = 0 ∧ z1 = []) ∨ ∃ x, a1 = some x ∧ len1 ≤ cap1 ∧ cap1 ≤ maxLen ∧ z1.length = cap1 ∧ (∀ i, i < z1.length → w.cell? (x.add i) = some (.int .u8 (z1.getD i 0))) ∧ ∀ n ∈ z1, (Lit.int .u8 n).wf = true) :
    Calls Tryd.prog 3 #[.slice a0 len0 cap0, .slice a1 len1 cap1] w (Tells w (.bool true)) := by
  obtain ⟨x, hO⟩ := hx
  clear w1
  by_cases hb : (1048576 : Int) < len0
  · go_enter Tryd.func3, Tryd.ntmps3
    go_wp2_with fail
    go_ret
    exact ⟨rfl, On.refl _⟩
  have hb' : (len0 : Int) ≤ 1048576 := by omega
  by_cases hc : (1048576 : Int) < len1
  · go_enter Tryd.func3, Tryd.ntmps3
    go_wp2_with fail
    go_ret
    exact ⟨rfl, On.refl _⟩
  have hc' : (len1 : Int) ≤ 1048576 := by omega
  have e4 : Int.tmod (len1 : Int) 4 = ((len1 % 4 : Nat) : Int) := tmod_nat len1 4
  have hk4 : len1 % 4 < 4 := Nat.mod_lt _ (by omega)
  generalize len1 % 4 = k at *
  have ek : IntKind.i64.wrap (1 + (k : Int)) = ((1 + k : Nat) : Int) := by rw [IntKind.wrap_i64]; omega
  go_enter Tryd.func3, Tryd.ntmps3
  go_wp2_with fail
  refine (drawstore_calls a0 len0 cap0 z0 w w0).mono ?_
  rintro e w1 ⟨s, hs, rfl, O⟩
  clear hs
  go_wp2_with fail
  refine (istore_calls s w1).mono ?_
  rintro e w2 ⟨rfl, O2⟩
  replace O := O.call O2
  go_wp2_with fail
  refine (sput_store_calls s w2).mono ?_
  rintro e w3 ⟨rfl, O3⟩
  replace O := O.call O3
  by_cases h3 : s.size ≤ 300
  · have hs2 := storeB_size h3
    obtain ⟨y, hy⟩ : ∃ y, storeB s = y := ⟨_, rfl⟩
    have HY := Lib.hid hy
    rw [hy] at hs2 ⊢
    clear hy
    have hne : y.toList.isEmpty = false := not_empty (by omega)
    obtain ⟨q, hq⟩ : ∃ q, 1 + k = q := ⟨_, rfl⟩
    rw [hq] at ek
    have q1 : 1 ≤ q := by omega
    have q4 : q ≤ 4 := by omega
    clear hq
    have hq1 : (q : Int) < y.size := by omega
    have hq2 : (q : Int) ≤ y.size := by omega
    have hq3 : (q : Int) + 1 ≤ y.size := by omega
    have ek2 : IntKind.i64.wrap ((q : Int) + 1) = (q : Int) + 1 := by rw [IntKind.wrap_i64]; omega
    have HS2 := Lib.hid hs2
    have hqs : q < y.size := by omega
    clear hs2
    obtain ⟨v, hv⟩ : ∃ v, y[q].toNat ^^^ 4 = v := ⟨_, rfl⟩
    have ex : Go.bits .xor .u8 (y[q].toNat : Int) 4 = (v : Int) := by rw [← hv]; exact bits_bent _ y[q].toNat_lt
    have HV := Lib.hid hv
    clear hv
    have cv : (convert 22 9 (.slice (some ⟨w3.heap.size, 0, none⟩) 1 1)).run Tryd.prog (w3.alloc (.cells #[.int .u8 (v : Int)] 5)).drew = .ok (.string (strB [v])) (w3.alloc (.cells #[.int .u8 (v : Int)] 5)).drew := bytes_conv ((By.one w3 v).on ((On.refl _).drew)).out
    obtain ⟨x2, hx2⟩ : ∃ x2, strB [v] = x2 := ⟨_, rfl⟩
    have hs2 : x2.size = 1 := by rw [← hx2, strB_size]; rfl
    rw [hx2] at cv
    have HX2 := Lib.hid hx2
    clear hx2
    obtain ⟨x1, hx1⟩ : ∃ x1, y.extract 0 q = x1 := ⟨_, rfl⟩
    have hs1 : x1.size = q := by rw [← hx1, ByteArray.size_extract]; omega
    obtain ⟨x3, hx3⟩ : ∃ x3, y.extract (q + 1) y.size = x3 := ⟨_, rfl⟩
    obtain ⟨n3, hn3⟩ : ∃ n3, y.size - (q + 1) = n3 := ⟨_, rfl⟩
    have hs3 : x3.size = n3 := by rw [← hx3, ByteArray.size_extract, ← hn3]; omega
    have hn4 : n3 ≤ 400 := by have := HS2.out; omega
    have f1 : ¬ 9223372036854775807 < q + 1 := by omega
    have f2 : ¬ 9223372036854775807 < q + 1 + n3 := by omega
    clear hn3
    have HN : RowKit.Hid (gotOf (x1 ++ x2 ++ x3) = .tuple #[.string ⟨#[]⟩, .int .i64 0, .bool false]) := Lib.hid (by
      refine got_none ?_
      rw [chars_append, chars_append, ← hx1, ← hx3, ← HX2.out, chars_head, chars_tail, ← HY.out, chars_store h3, ← HV.out, chars_strB (by intro z hz; simp at hz; rw [hz]; exact (xor4 _ y[q].toNat_lt).1), ← chars_at y hqs, ← HY.out, chars_store h3, List.append_assoc]
      exact store_bent _ (by rw [chars_length]; exact h3) q q1 q4)
    go_wp2_with fail
    go_region
    have O4 : On w ((w3.alloc (.cells #[.int .u8 (v : Int)] 5)).drew) := (O.alloc _).drew
    go_wp2_with fail
    refine (flateget_calls x _ _ (hO.on O4)).mono ?_
    rintro e w4 ⟨rfl, O5⟩
    rw [HN.out]
    go_wp2_with fail
    go_ret
    exact ⟨rfl, O4.call O5⟩
  · have h3' : storeB s = ⟨#[]⟩ := by unfold storeB; rw [if_neg h3]
    rw [h3']
    go_wp2_with fail
    refine (sput_store_calls s w3).mono ?_
    rintro e w4 ⟨rfl, O4⟩
    rw [h3']
    go_wp2_with fail
    go_ret
    exact ⟨by simp, O.call O4⟩
theorem w0_on {a0 : Option Addr} {len0 cap0 : Nat} {z0 : List Int} {w w' : World} (O : On w w') (w0 : (a0 = none ∧ len0 = 0 ∧ cap0 = 0 ∧ z0 = []) ∨ ∃ x, a0 = some x ∧ len0 ≤ cap0 ∧ cap0 ≤ maxLen ∧ z0.length = cap0 ∧ (∀ i, i < z0.length → w.cell? (x.add i) = some (.int .u8 (z0.getD i 0))) ∧ ∀ n ∈ z0, (Lit.int .u8 n).wf = true) :
    (a0 = none ∧ len0 = 0 ∧ cap0 = 0 ∧ z0 = []) ∨ ∃ x, a0 = some x ∧ len0 ≤ cap0 ∧ cap0 ≤ maxLen ∧ z0.length = cap0 ∧ (∀ i, i < z0.length → w'.cell? (x.add i) = some (.int .u8 (z0.getD i 0))) ∧ ∀ n ∈ z0, (Lit.int .u8 n).wf = true := by
  rcases w0 with h | ⟨x, rfl, h1, h2, h3, h4, h5⟩
  · exact .inl h
  · refine .inr ⟨x, rfl, h1, h2, h3, fun i hi => ?_, h5⟩
    rw [← h4 i hi]
    exact O.cell (World.block_lt_of_cell? w _ (h4 i hi))
set_option maxRecDepth 100000 in
theorem law_fltwo (a0 : Option Addr) (len0 cap0 : Nat) (z0 : List Int) (a1 : Option Addr) (len1 cap1 : Nat) (z1 : List Int) (w : World) (hx : ∃ x, Ord w x) (w0 : (a0 = none ∧ len0 = 0 ∧ cap0 = 0 ∧ z0 = []) ∨ ∃ x, a0 = some x ∧ len0 ≤ cap0 ∧ cap0 ≤ maxLen ∧ z0.length = cap0 ∧ (∀ i, i < z0.length → w.cell? (x.add i) = some (.int .u8 (z0.getD i 0))) ∧ ∀ n ∈ z0, (Lit.int .u8 n).wf = true)
    (w1 : (a1 = none ∧ len1 = 0 ∧ cap1 = 0 ∧ z1 = []) ∨ ∃ x, a1 = some x ∧ len1 ≤ cap1 ∧ cap1 ≤ maxLen ∧ z1.length = cap1 ∧ (∀ i, i < z1.length → w.cell? (x.add i) = some (.int .u8 (z1.getD i 0))) ∧ ∀ n ∈ z1, (Lit.int .u8 n).wf = true) :
    Calls Tryd.prog 5 #[.slice a0 len0 cap0, .slice a1 len1 cap1] w (Tells w (.bool true)) := by
  obtain ⟨x, hO⟩ := hx
  by_cases hb : (1048576 : Int) < len0
  · go_enter Tryd.func5, Tryd.ntmps5
    go_wp2_with fail
    go_ret
    exact ⟨rfl, On.refl _⟩
  have hb' : (len0 : Int) ≤ 1048576 := by omega
  by_cases hc : (1048576 : Int) < len1
  · go_enter Tryd.func5, Tryd.ntmps5
    go_wp2_with fail
    go_ret
    exact ⟨rfl, On.refl _⟩
  have hc' : (len1 : Int) ≤ 1048576 := by omega
  have W1 := Lib.hid w1
  clear w1
  go_enter Tryd.func5, Tryd.ntmps5
  go_wp2_with fail
  refine (drawstore_calls a0 len0 cap0 z0 w w0).mono ?_
  rintro e w1 ⟨s, hs, rfl, O⟩
  go_wp2_with fail
  refine (drawstore_calls a1 len1 cap1 z1 w1 (w0_on O W1.out)).mono ?_
  rintro e w2 ⟨t, ht, rfl, O2⟩
  replace O := O.call O2
  go_wp2_with fail
  refine (istore_calls s w2).mono ?_
  rintro e w3 ⟨rfl, O3⟩
  replace O := O.call O3
  go_wp2_with fail
  refine (ifixedput_calls t w3).mono ?_
  rintro e w4 ⟨rfl, O4⟩
  replace O := O.call O4
  go_wp2_with fail
  refine (sput_store_calls s w4).mono ?_
  rintro e w5 ⟨rfl, O5⟩
  replace O := O.call O5
  by_cases h1 : s.size ≤ 300
  · by_cases h2 : t.size ≤ 300
    · have hsa := storeB_size h1
      have hl := fixed_length (chars_lt t) (by rw [chars_length]; exact h2)
      have hsb : (fixedB t).size = (fixed (chars t)).length := by rw [← chars_length, chars_fixed h2]
      have H2 := store_two (chars s) (chars t) (chars_lt s) (chars_lt t) (by rw [chars_length]; exact h1) (by rw [chars_length]; exact h2) (by rw [store_length, chars_length]; omega)
      rw [chars_length, chars_length, store_length, chars_length, ← hsb] at H2
      have CA := chars_store h1
      have CB := chars_fixed h2
      obtain ⟨a, ha⟩ : ∃ a, storeB s = a := ⟨_, rfl⟩
      obtain ⟨b, hb⟩ : ∃ b, fixedB t = b := ⟨_, rfl⟩
      rw [ha] at hsa CA
      rw [hb] at hsb CB H2
      have HA := Lib.hid ha
      have HB := Lib.hid hb
      rw [ha, hb]
      clear ha hb
      obtain ⟨a2, ha2⟩ : ∃ a2, a.extract 1 a.size = a2 := ⟨_, rfl⟩
      have hsa2 : a2.size = s.size + 4 := by rw [← ha2, ByteArray.size_extract]; omega
      have CX : RowKit.Hid (chars ((⟨#[0]⟩ : ByteArray) ++ a2 ++ b) = 0 :: ((En.store (chars s)).drop 1 ++ fixed (chars t))) := Lib.hid (by
        rw [chars_append, chars_append, ← ha2, chars_tail, CA, CB]; rfl)
      have ha0 : a.toList.isEmpty = false := not_empty (by omega)
      have hb0 : b.toList.isEmpty = false := not_empty (by omega)
      have n1 : 1 ≤ a.size := by omega
      have n1' : (1 : Int) ≤ a.size := by omega
      have n2 : ¬ ((700 : Int) < (a.size : Int) + (b.size : Int)) := by omega
      have n3 : a2.size ≤ 400 := by omega
      have n4 : b.size ≤ 400 := by omega
      have n5 : a.size ≤ 400 := by omega
      have HSA := Lib.hid hsa
      have HSB := Lib.hid hsb
      clear CA CB hsa hsa2 hsb hl HA HB
      by_cases h3 : s.size + t.size ≤ 300
      · rw [if_pos h3] at H2
        have HG : RowKit.Hid (gotOf ((⟨#[0]⟩ : ByteArray) ++ a2 ++ b) = .tuple #[.string (s ++ t), .int .i64 ((a.size + b.size : Nat) : Int), .bool true]) := Lib.hid (got_of (by
          rw [CX.out, H2, chars_append, HSA.out]))
        have h3' : ¬ ((300 : Int) < (s.size : Int) + (t.size : Int)) := by omega
        clear H2
        go_wp2_with fail
        refine (flateget_calls x _ w5 (hO.on O)).mono ?_
        rintro e w6 ⟨rfl, O6⟩
        rw [HG.out]
        go_wp2_with fail
        go_ret
        exact ⟨rfl, O.call O6⟩
      · rw [if_neg h3] at H2
        have HG : RowKit.Hid (gotOf ((⟨#[0]⟩ : ByteArray) ++ a2 ++ b) = .tuple #[.string ⟨#[]⟩, .int .i64 0, .bool false]) := Lib.hid (got_none (by
          rw [CX.out, H2]))
        have h3' : (300 : Int) < (s.size : Int) + (t.size : Int) := by omega
        clear H2
        go_wp2_with fail
        refine (flateget_calls x _ w5 (hO.on O)).mono ?_
        rintro e w6 ⟨rfl, O6⟩
        rw [HG.out]
        go_wp2_with fail
        go_ret
        exact ⟨rfl, O.call O6⟩
    · have h3' : fixedB t = ⟨#[]⟩ := by unfold fixedB; rw [if_neg h2]
      rw [h3']
      have hsa := storeB_size h1
      have ha0 : (storeB s).toList.isEmpty = false := not_empty (by omega)
      clear hsa
      go_wp2_with fail
      refine (sput_store_calls s w5).mono ?_
      rintro e w6 ⟨rfl, O6⟩
      go_wp2_with fail
      go_ret
      exact ⟨by simp, O.call O6⟩
  · have h3' : storeB s = ⟨#[]⟩ := by unfold storeB; rw [if_neg h1]
    rw [h3']
    go_wp2_with fail
    refine (sput_store_calls s w5).mono ?_
    rintro e w6 ⟨rfl, O6⟩
    rw [h3']
    go_wp2_with fail
    go_ret
    exact ⟨by simp, O.call O6⟩
end Go.Proofs.YtncidljdfipigaaDoor.Wi
