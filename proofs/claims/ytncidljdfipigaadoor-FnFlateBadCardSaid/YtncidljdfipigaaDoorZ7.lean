/- Own texts joined: WTokS, WFixed, LwFl, Hq0, Hm, Hl. -/
import Derived.BigRegion
import Derived.Lib.IndexBytes
import Derived.Deep.QuietTactic
import Derived.BigQuiet
import Derived.Deep.AppendLies
import Derived.Deep.DeepCutAuto
import Derived.Deep.RegionHeld3
import Derived.Test.YtncidljdfipigaaDoorZ0
import Derived.Test.YtncidljdfipigaaDoorZ1
import Derived.Test.YtncidljdfipigaaDoorZ2
import Derived.Test.YtncidljdfipigaaDoorZ3
import Derived.Test.YtncidljdfipigaaDoorZ4
import Derived.Test.YtncidljdfipigaaDoorZ5
import Derived.Test.YtncidljdfipigaaDoorZ6
/- Tokens of a text, in the reference: the plain ones. Conditions: sizes. -/
namespace Go.Proofs.YtncidljdfipigaaDoor.Wi
open Go.RowKit Go.Proofs.YtncidljdfipigaaDoor.Mem Go.Proofs.YtncidljdfipigaaDoor.Lz
set_option linter.unusedVariables false
set_option linter.unusedSimpArgs false
theorem at_all (s : ByteArray) : ∀ i (h : i < s.size), (chars s)[i]? = some s[i].toNat := fun i h => by
  have := chars_at s h
  rw [List.getD_eq_getElem?_getD, List.getElem?_eq_getElem (by rw [chars_length]; exact h)] at this
  rw [List.getElem?_eq_getElem (by rw [chars_length]; exact h)]
  exact congrArg some this
set_option maxRecDepth 100000 in
set_option maxHeartbeats 1000000 in
theorem again_calls (s : ByteArray) (hs : s.size ≤ 300) (a k : Nat) (hk : 1 ≤ k) (hka : k ≤ a) (ha : a < s.size) (w : World) : Calls Tryd.prog 120 #[.string s, .int .i64 a, .int .i64 k] w (Tells w (.int .i64 (mlen (chars s) a k : Nat))) := by
  have htl : (chars s).length = s.size := chars_length s
  have hat := at_all s
  generalize chars s = t at *
  have HTL := Lib.hid htl
  have HAT := Lib.hid hat
  clear htl hat
  go_enter Tryd.func120, Tryd.ntmps120
  go_wp2_with fail
  go_loopw [7] (fun x wr => ∃ n : Nat, x = .int .i64 (n : Int) ∧ n ≤ 60 ∧ RowKit.Hid (n + run t (a + n) (a + n - k) (60 - n) = mlen t a k) ∧ On w wr) (fun x _ => 60 - (intOf x).toNat)
  case atStart => exact ⟨0, rfl, by omega, Lib.hid (by simp [mlen]), On.refl _⟩
  case round =>
    obtain ⟨n, rfl, hn, hrun, O3⟩ := hrel
    have q1 : IntKind.i64.wrap ((a : Int) + (n : Int)) = ((a + n : Nat) : Int) := by rw [IntKind.wrap_i64]; omega
    have q2 : IntKind.i64.wrap (((a + n : Nat) : Int) - (k : Int)) = ((a + n - k : Nat) : Int) := by rw [IntKind.wrap_i64]; omega
    have hq : a + n - k < a + n := by omega
    have hq2 : a + n ≤ 400 := by omega
    have hcont : n < 60 ∧ a + n < t.length ∧ t[a + n]? = t[a + n - k]? ∨ ¬ (n < 60 ∧ a + n < t.length ∧ t[a + n]? = t[a + n - k]?) := Classical.em _
    have hgo := run_step hrun.out hk hka
    have hend := run_stop hrun.out
    generalize hp : a + n = p at hcont hend q1 q2 hq hq2
    generalize hpq : p - k = q at hcont hend q2 hq
    rw [hp, hpq] at hgo
    have HP := Lib.hid hp
    have HPQ := Lib.hid hpq
    have HGO := Lib.hid hgo
    have HEND := Lib.hid hend
    clear hp hpq hgo hend hrun
    rcases hcont with hc | hc
    · have hx2 := Lib.hid (HGO.out hc)
      have hc1 : (n : Int) < 60 := by have := hc.1; omega
      have hps : p < s.size := by have := hc.2.1; rw [HTL.out] at this; exact this
      have hqs : q < s.size := by omega
      have hxy : s[p] = s[q] := by
        have := hc.2.2
        rw [HAT.out p hps, HAT.out q hqs] at this
        exact UInt8.toNat_inj.1 (Option.some.inj this)
      have hps' : (p : Int) < s.size := by omega
      have hqs' : (q : Int) < s.size := by omega
      have hb : (((s[p]).toNat : Int) == ((s[q]).toNat : Int)) = true := by rw [hxy]; simp
      clear hc hxy
      generalize hx : s[p] = x at *
      generalize hy : s[q] = y at *
      go_wp2_with fail
      go_quiet (fail)
      go_wp2_with fail
      exact ⟨⟨n + 1, by go_num, by omega, hx2, O3.drewN _⟩, by simp [intOf]; omega⟩
    · have hx2 := HEND.out hc
      have hstop : decide (p < s.size) = false ∨ (decide (p < s.size) = true ∧ decide ((n : Int) < 60) = false) ∨
          (decide ((n : Int) < 60) = true ∧ decide (p < s.size) = true ∧ decide (q < s.size) = true ∧ ∃ (hp : p < s.size) (hq : q < s.size), (((s[p]).toNat : Int) == ((s[q]).toNat : Int)) = false) := by
        by_cases h2 : p < s.size
        · by_cases h1 : n < 60
          · refine .inr (.inr ⟨by simp; omega, by simp; omega, by simp; omega, h2, by omega, ?_⟩)
            rw [beq_eq_false_iff_ne]
            intro e
            apply hc
            refine ⟨h1, by rw [HTL.out]; exact h2, ?_⟩
            rw [HAT.out p h2, HAT.out q (by omega)]
            congr 1; omega
          · exact .inr (.inl ⟨by simp; omega, by simp; omega⟩)
        · exact .inl (by simp; omega)
      have HX2 := Lib.hid hx2
      clear hc hx2
      rcases hstop with h | ⟨h1, h2⟩ | ⟨h1, h2, h3, hp, hq, h4⟩
      · go_wp2_with fail
        go_quiet (fail)
        go_wp2_with fail
        go_ret
        exact ⟨by rw [← HX2.out]; rfl, O3.drewN _⟩
      · go_wp2_with fail
        go_quiet (fail)
        go_wp2_with fail
        go_ret
        exact ⟨by rw [← HX2.out]; rfl, O3.drewN _⟩
      · generalize hx : s[p] = x at *
        generalize hy : s[q] = y at *
        go_wp2_with fail
        go_quiet (fail)
        go_wp2_with fail
        go_ret
        exact ⟨by rw [← HX2.out]; rfl, O3.drewN _⟩
theorem best_step (t : List Nat) (a j : Nat) : best t a (j + 1) = if (best t a j).1 < mlen t a (j + 1) then (mlen t a (j + 1), j + 1) else best t a j := rfl
set_option maxRecDepth 100000 in
set_option maxHeartbeats 2000000 in
theorem stoks_calls (s : ByteArray) (hs : s.size ≤ 300) (w : World) : Calls Tryd.prog 90 #[.string s] w (GivesT w (tokens (chars s))) := by
  have htl : (chars s).length = s.size := chars_length s
  have hat := at_all s
  have h0 : tokens (chars s) = [] ++ toks (chars s) ((chars s).length - 0) 0 := rfl
  have hag := fun a k h1 h2 h3 w => again_calls s hs a k h1 h2 h3 w
  generalize chars s = t at *
  have HTL := Lib.hid htl
  have HAT := Lib.hid hat
  have H0 := Lib.hid h0
  have HAG := Lib.hid hag
  clear htl hat h0 hag
  go_enter Tryd.func90, Tryd.ntmps90
  go_wp2_with fail
  go_loopw [3, 4] (fun v x wr => ∃ (a : Nat) (done : List Tok), x = .int .i64 (a : Int) ∧ a ≤ s.size ∧ done.length ≤ a ∧ RowKit.Hid (tokens t = done ++ toks t (t.length - a) a) ∧ Own w.heap.size wr 67 3 v done.length (tokCells done) ∧ On w wr) (fun _ x _ => s.size - (intOf x).toNat)
  case atStart => exact ⟨0, [], rfl, by omega, by simp, H0, Own.new w 67 3 #[] 0 (Nat.zero_le _) rfl (Nat.le_refl _), (On.refl w).alloc _⟩
  case round =>
    obtain ⟨a, done, rfl, ha, hd, hT, hown, O⟩ := hrel
    by_cases hlt : a < s.size
    · obtain ⟨wo, hwo⟩ : ∃ wo : World, wo = wr := ⟨_, rfl⟩
      subst hwo
      have hts := toks_step t a (by rw [HTL.out]; exact hlt)
      have hhe : held t a (min 250 a) = if 3 ≤ (best t a (min 250 a)).1 then ⟨0, ((best t a (min 250 a)).1 : Nat), ((best t a (min 250 a)).2 : Nat)⟩ else ⟨(t.getD a 0 : Nat), 0, 0⟩ := rfl
      have HTS := Lib.hid hts
      have HHE := Lib.hid hhe
      have hm1 : min 250 a ≤ 250 := by omega
      have hm2 : min 250 a ≤ a := by omega
      have hm3 : min 250 a = 250 ∨ min 250 a = a := by omega
      clear hts hhe
      generalize min 250 a = m at *
      go_wp2_with fail
      go_loopw [5, 6, 7] (fun l f x wr => ∃ j : Nat, x = .int .i64 ((j : Int) + 1) ∧ j ≤ m ∧ l = .int .i64 ((best t a j).1 : Nat) ∧ f = .int .i64 ((best t a j).2 : Nat) ∧ On wo wr) (fun _ _ x _ => 251 - (intOf x).toNat)
      case atStart => exact ⟨0, rfl, by omega, rfl, rfl, On.refl _⟩
      case round =>
        obtain ⟨j, rfl, hj, rfl, rfl, O2⟩ := hrel
        have hle := best_le_60 t a j
        by_cases hjl : j < m
        · have hj1 : (j : Int) + 1 ≤ 250 := by omega
          have hj2 : (j : Int) + 1 ≤ a := by omega
          have hst := best_step t a j
          have hml := mlen_le t a (j + 1)
          have hc := HAG.out a (j + 1) (by omega) (by omega) hlt
          have HC := Lib.hid hc
          have HST := Lib.hid hst
          clear hst hc
          generalize best t a j = bj at *
          obtain ⟨L, F⟩ := bj
          simp only at hle HST
          generalize mlen t a (j + 1) = M at *
          go_wp2_with fail
          have hc2 := HC.out wr
          rw [show (((j + 1 : Nat) : Int)) = (j : Int) + 1 from by omega] at hc2
          refine hc2.mono ?_
          rintro e w3 ⟨rfl, O3⟩
          by_cases hLM : L < M
          · have hLM' : (L : Int) < M := by omega
            go_wp2_with fail
            refine ⟨⟨j + 1, by go_num, by omega, ?_, ?_, O2.call O3⟩, by simp [intOf]; omega⟩
            · rw [HST.out, if_pos hLM]
            · rw [HST.out, if_pos hLM]; go_num
          · have hLM' : ¬ (L : Int) < M := by omega
            go_wp2_with fail
            refine ⟨⟨j + 1, by go_num, by omega, ?_, ?_, O2.call O3⟩, by simp [intOf]; omega⟩
            · rw [HST.out, if_neg hLM]
            · rw [HST.out, if_neg hLM]
        · obtain rfl : j = m := by omega
          have hstop : decide ((j : Int) + 1 ≤ 250) = false ∨ (decide ((j : Int) + 1 ≤ 250) = true ∧ decide ((j : Int) + 1 ≤ (a : Int)) = false) := by
            by_cases h : (j : Int) + 1 ≤ 250
            · exact .inr ⟨by simpa using h, by simp; omega⟩
            · exact .inl (by simpa using h)
          have hown2 := hown.on O2
          have O4 := O.call O2
          obtain ⟨i0, hi, hz0, hz1, hz2⟩ := info_parts tokinfo
          have hdl : done.length ≤ 300 := by omega
          have hHT := HTS.out
          rw [HHE.out] at hHT
          have HHT := Lib.hid hHT
          clear hHT hown
          generalize best t a j = bj at *
          obtain ⟨L, F⟩ := bj
          simp only at hle HHT
          obtain ⟨b, hbb⟩ : ∃ b, s[a] = b := ⟨_, rfl⟩
          have hbt : t.getD a 0 = b.toNat := by rw [List.getD_eq_getElem?_getD, HAT.out a hlt, hbb]; rfl
          have HBT := Lib.hid hbt
          have hb256 : (b.toNat : Int) < 256 := by have := b.toNat_lt; omega
          clear hbt
          by_cases h3 : 3 ≤ L
          · have h3' : ¬ (L : Int) < 3 := by omega
            have hHT := HHT.out
            rw [if_pos h3] at hHT
            simp only [Int.toNat_natCast] at hHT
            rw [show max L 1 = L from by omega] at hHT
            have HHT2 := Lib.hid hHT
            clear HHT hHT
            rcases hstop with h | ⟨h, h'⟩
            all_goals
              go_wp2_with (at_builtin; go_must (refine wpList_app rfl _ _ 64 rfl w i0 (.agg #[.int .i64 0, .int .i64 0, .int .i64 0]) 24 3 Tryd.underlying64 hi hz0 hz1 hz2 rfl (by decide) rfl _ _ _ rfl hown2 O4 rfl (by simp [Value.oneCell']) (by unfold maxLen; omega) (by omega) ?_); intro v' w2 hown' O' hk)
              go_roundw
              case rel =>
                obtain ⟨e1, e2⟩ := HHT2.out
                refine ⟨a + L, done ++ [⟨0, (L : Int), (F : Int)⟩], by go_num, by rw [HTL.out] at e2; exact e2, by rw [List.length_append, List.length_singleton]; omega, Lib.hid (by rw [hT.out, e1, List.append_assoc]; rfl), ?_, O'⟩
                rw [List.length_append, List.length_singleton, tokCells_snoc]
                exact hown'
              case measure => simp [intOf]; omega
          · have h3' : (L : Int) < 3 := by omega
            have hHT := HHT.out
            rw [if_neg h3] at hHT
            simp only at hHT
            rw [show max (Int.toNat 0) 1 = 1 from rfl, HBT.out] at hHT
            have HHT2 := Lib.hid hHT
            clear HHT hHT
            rcases hstop with h | ⟨h, h'⟩
            all_goals
              go_wp2_with (at_builtin; go_must (refine wpList_app rfl _ _ 64 rfl w i0 (.agg #[.int .i64 0, .int .i64 0, .int .i64 0]) 24 3 Tryd.underlying64 hi hz0 hz1 hz2 rfl (by decide) rfl _ _ _ rfl hown2 O4 rfl (by simp [Value.oneCell']) (by unfold maxLen; omega) (by omega) ?_); intro v' w2 hown' O' hk)
              go_roundw
              case rel =>
                obtain ⟨e1, e2⟩ := HHT2.out
                refine ⟨a + 1, done ++ [⟨(b.toNat : Int), 0, 0⟩], by go_num, by rw [HTL.out] at e2; exact e2, by rw [List.length_append, List.length_singleton]; omega, Lib.hid (by rw [hT.out, e1, List.append_assoc]; rfl), ?_, O'⟩
                rw [List.length_append, List.length_singleton, tokCells_snoc]
                exact hown'
              case measure => simp [intOf]; omega
    · obtain rfl : a = s.size := by omega
      have hT2 := hT.out
      rw [toks_end t _ (by rw [HTL.out]; exact Nat.le_refl _), List.append_nil] at hT2
      have HT2 := Lib.hid hT2
      obtain ⟨g, cap, rfl, hg, R, hn1, hcap, hlen⟩ := hown.parts
      clear hT2
      go_wp2_with fail
      go_ret
      refine ⟨g, cap, ?_, ?_, ?_, hcap, hg, O⟩
      · rw [HT2.out]; rfl
      · rw [HT2.out]; exact R
      · rw [HT2.out]; exact hn1
end Go.Proofs.YtncidljdfipigaaDoor.Wi

/- What FixedPut does, in both programs: the plain packing by codes that all know. -/
namespace Go.Proofs.YtncidljdfipigaaDoor.Wi
open Go.RowKit Go.Proofs.YtncidljdfipigaaDoor.Mem Go.Proofs.YtncidljdfipigaaDoor.Bt Go.Proofs.YtncidljdfipigaaDoor.Cd Go.Proofs.YtncidljdfipigaaDoor.De Go.Proofs.YtncidljdfipigaaDoor.En Go.Proofs.YtncidljdfipigaaDoor.Lz
set_option linter.unusedVariables false
set_option linter.unusedSimpArgs false
def fixedB (s : ByteArray) : ByteArray := if s.size ≤ 300 then strB (En.fixed (chars s)) else ⟨#[]⟩
theorem text_chars {s : ByteArray} (h : s.size ≤ 300) : text [] (tokens (chars s)) = some (chars s) := text_tokens (chars_lt s) (by rw [chars_length]; exact h)
theorem tokens_size {s : ByteArray} (h : s.size ≤ 300) : (tokens (chars s)).length ≤ 300 := by
  have := tokens_length (chars s)
  rw [chars_length] at this; omega
set_option maxRecDepth 100000 in
theorem ifixedput_calls (s : ByteArray) (w : World) :
    Calls Tryd.prog 26 #[.string s] w (Tells w (.string (fixedB s))) := by
  by_cases h : s.size ≤ 300
  · have h' : (s.size : Int) ≤ 300 := by omega
    have htx := text_chars h
    have htl := tokens_size h
    have hto : toksOf s = tokens (chars s) := by unfold toksOf; rw [if_pos h]
    have HR : RowKit.Hid (fixedB s = strB (pack (fixBits (chars s)))) := Lib.hid (by unfold fixedB; rw [if_pos h]; rfl)
    have HTX := Lib.hid htx
    have HTO := Lib.hid hto
    clear htx hto
    go_enter Tryd.func26, Tryd.ntmps26
    go_wp2_with fail
    refine (put_calls _ _ [] 1 1 _ (iw_new w) (by omega) (by simp) (by omega)).mono ?_
    rintro e w1 ⟨r1, rfl, hw1, M1⟩
    have hr0 : w.heap.size < (w.alloc (.cells #[.slice none 0 0, .int .i64 0] 50)).heap.size := (Blk.new w _ _).lt
    have hr1 := M1.lt hr0
    obtain ⟨O1, hb1⟩ := M1.on ((On.refl w).alloc _) (Nat.le_refl _) (Nat.le_refl _)
    go_wp2_with fail
    refine (put_calls _ _ _ 1 2 w1 hw1 (by omega) (by simp [bitsOf]) (by omega)).mono ?_
    rintro e w2 ⟨r2, rfl, hw2, M2⟩
    have hr2 := M2.lt hr1
    obtain ⟨O2, hb2⟩ := M2.on O1 (Nat.le_refl _) hb1
    go_wp2_with fail
    refine (ifixed_calls w2).mono ?_
    rintro e w3 ⟨ra, rb, rfl, Ra, Rb, ha, hb, O3⟩
    have hz3 := O3.size
    have hg2 := hw2.glt
    go_wp2_with fail
    refine (itoks_calls s w3).mono ?_
    rintro e w4 ⟨q, cq, rfl, Rq, hq1, hq2, hq3, O4⟩
    rw [HTO.out] at Rq hq1 ⊢
    have O34 := O3.call O4
    generalize hn : (tokens (chars s)).length = n at *
    have HNN := Lib.hid hn
    clear hn
    have hc := itokens_calls w.heap.size r2 q n cq ra 0 288 288 rb 0 32 32 _ (tokens (chars s)) fixLit fixDist w4 (hw2.on O34) (by simp [bitsOf]) (by simp [bitsOf]) Rq (Ra.on O4) (Rb.on O4) HNN.out (by omega) hq1 fixLit_length fixDist_length (by omega) (by omega) (by omega) (by omega)
      (fixed_has HTX.out) (fine_of HTX.out) (not_in (by omega) (by omega)) (not_in (by omega) (by omega)) (not_in (by omega) (by omega))
    have HC := Lib.hid hc
    clear hc
    go_wp2_with fail
    refine HC.out.mono ?_
    rintro e w5 ⟨r5, rfl, hw5, M5⟩
    obtain ⟨O5, hb5⟩ := M5.on (O2.call O34) (Nat.le_refl _) hb2
    have hw6 : IW w5 w.heap.size r5 (fixBits (chars s)) := hw5
    obtain ⟨v, c0, hconv⟩ := hw6.text
    clear hw1 hw2 hw5 hw6
    go_wp2_with fail
    go_ret
    exact ⟨by rw [HR.out]; rfl, O5⟩
  · have h' : (300 : Int) < s.size := by omega
    have HR : RowKit.Hid (fixedB s = ⟨#[]⟩) := Lib.hid (by unfold fixedB; rw [if_neg h])
    go_enter Tryd.func26, Tryd.ntmps26
    go_wp2_with fail
    go_ret
    exact ⟨by rw [HR.out]; rfl, On.refl _⟩
set_option maxRecDepth 100000 in
theorem sknown_calls (s : ByteArray) (h : s.size ≤ 300) (w : World) :
    Calls Tryd.prog 69 #[.string s] w (Tells w (.string (strB (En.fixed (chars s))))) := by
  have htx := text_chars h
  have htl := tokens_size h
  have HR : RowKit.Hid (strB (En.fixed (chars s)) = strB (pack (pad (fixBits (chars s))))) := Lib.hid (by rw [pack_pad]; rfl)
  have HTX := Lib.hid htx
  clear htx
  go_enter Tryd.func69, Tryd.ntmps69
  go_wp2_with fail
  refine (sput_calls _ _ [] 1 1 _ (sw_new w) (by omega) (by simp) (by omega)).mono ?_
  rintro e w1 ⟨r1, rfl, hw1, M1⟩
  have hr0 : w.heap.size < (w.alloc (.cells #[.slice none 0 0, .int .i64 0, .int .i64 0] 88)).heap.size := (Blk.new w _ _).lt
  have hr1 := M1.lt hr0
  obtain ⟨O1, hb1⟩ := M1.on ((On.refl w).alloc _) (Nat.le_refl _) (Nat.le_refl _)
  go_wp2_with fail
  refine (sput_calls _ _ _ 1 2 w1 hw1 (by omega) (by simp [bitsOf]) (by omega)).mono ?_
  rintro e w2 ⟨r2, rfl, hw2, M2⟩
  have hr2 := M2.lt hr1
  obtain ⟨O2, hb2⟩ := M2.on O1 (Nat.le_refl _) hb1
  have hg2 := hw2.glt
  go_wp2_with fail
  refine (stoks_calls s h w2).mono ?_
  rintro e w3 ⟨q, cq, rfl, Rq, hq1, hq2, hq3, O3⟩
  generalize hn : (tokens (chars s)).length = n at *
  have HNN := Lib.hid hn
  clear hn
  have hz3 := O3.size
  go_wp2_with fail
  refine (sfixed_calls w3).mono ?_
  rintro e w4 ⟨ra, ca, rfl, Na, ha1, ha2, O4⟩
  have hz4 := O4.size
  go_wp2_with fail
  refine (sfives_calls w4).mono ?_
  rintro e w5 ⟨rb, cb, rfl, Nb, hb3, hb4, O5⟩
  have O45 := O4.call O5
  have O35 := O3.call O45
  have hz5 := O35.size
  have hca : 288 ≤ ca := by have := Na.row.2.2.1; rw [fixLit_length] at this; exact this
  have hcb : 32 ≤ cb := by have := Nb.row.2.2.1; rw [fixDist_length] at this; exact this
  have hc := stokens_calls w.heap.size r2 q n cq ra 0 288 ca rb 0 32 cb _ (tokens (chars s)) fixLit fixDist w5 (hw2.on O35) (by omega) (by simp [bitsOf]) (Rq.on O45) ((Na.on O5).row.1.toO) (Nb.row.1.toO) HNN.out (by omega) hq1 fixLit_length fixDist_length hca hcb (by omega) (by omega)
    (fixed_has HTX.out) (fine_of HTX.out) (not_in (by omega) (by omega)) (not_in (by omega) (by omega)) (not_in (by omega) (by omega))
  have HC := Lib.hid hc
  clear hc
  rw [show fixLit.length = 288 from fixLit_length, show fixDist.length = 32 from fixDist_length]
  go_wp2_with fail
  refine HC.out.mono ?_
  rintro e w6 ⟨r6, rfl, hw6, M6⟩
  obtain ⟨O6, hb6⟩ := M6.on (O2.call O35) (Nat.le_refl _) hb2
  have hw7 : SW w6 w.heap.size r6 (fixBits (chars s)) := hw6
  have hfb := (fixBits_length (chars_lt s) (by rw [chars_length]; exact h)).2.1
  rw [chars_length] at hfb
  have hwh := whole_calls w.heap.size r6 (fixBits (chars s)) w6 hw7 (by omega)
  have HWH := Lib.hid hwh
  clear hwh hfb
  go_wp2_with fail
  refine HWH.out.mono ?_
  rintro e w8 ⟨r8, rfl, hw8, M8⟩
  obtain ⟨O8, hb8⟩ := M8.on O6 (Nat.le_refl _) hb6
  obtain ⟨v, c0, hconv⟩ := hw8.text (by rw [pad_length]; omega)
  clear hw1 hw2 hw6 hw7 hw8
  go_wp2_with fail
  go_ret
  exact ⟨by rw [HR.out]; rfl, O8⟩
set_option maxRecDepth 100000 in
theorem sfixedput_calls (s : ByteArray) (w : World) :
    Calls Tryd.prog 32 #[.string s] w (Tells w (.string (fixedB s))) := by
  by_cases h : s.size ≤ 300
  · have h' : (s.size : Int) ≤ 300 := by omega
    have HR : RowKit.Hid (fixedB s = strB (En.fixed (chars s))) := Lib.hid (by unfold fixedB; rw [if_pos h])
    go_enter Tryd.func32, Tryd.ntmps32
    go_wp2_with fail
    refine (sknown_calls s h w).mono ?_
    rintro e w1 ⟨rfl, O1⟩
    go_wp2_with fail
    go_ret
    exact ⟨by rw [HR.out]; rfl, O1⟩
  · have h' : (300 : Int) < s.size := by omega
    have HR : RowKit.Hid (fixedB s = ⟨#[]⟩) := Lib.hid (by unfold fixedB; rw [if_neg h])
    go_enter Tryd.func32, Tryd.ntmps32
    go_wp2_with fail
    go_ret
    exact ⟨by rw [HR.out]; rfl, On.refl _⟩
end Go.Proofs.YtncidljdfipigaaDoor.Wi

/- The walks of FnStore, FnStoreBad, FnStoreTwo, FnFixed: at every input they return true and keep what was. The one fact that they take: order as it is laid. -/
namespace Go.Proofs.YtncidljdfipigaaDoor.Wi
open Go.RowKit Go.Proofs.YtncidljdfipigaaDoor.Mem Go.Proofs.YtncidljdfipigaaDoor.Bt Go.Proofs.YtncidljdfipigaaDoor.Cd Go.Proofs.YtncidljdfipigaaDoor.De Go.Proofs.YtncidljdfipigaaDoor.En Go.Proofs.YtncidljdfipigaaDoor.Draw
set_option linter.unusedVariables false
set_option linter.unusedSimpArgs false
theorem store_lt {t : List Nat} (h : ∀ x ∈ t, x < 256) : ∀ x ∈ En.store t, x < 256 := by
  intro x hx
  rcases List.mem_append.1 hx with hx | hx
  · exact pack_lt _ x hx
  · exact h x hx
theorem chars_store {s : ByteArray} (h : s.size ≤ 300) : chars (storeB s) = En.store (chars s) := by
  unfold storeB
  rw [if_pos h]
  exact chars_strB (store_lt (chars_lt s))
theorem chars_fixed {s : ByteArray} (h : s.size ≤ 300) : chars (fixedB s) = fixed (chars s) := by
  unfold fixedB
  rw [if_pos h]
  exact chars_strB (pack_lt _)
theorem storeB_size {s : ByteArray} (h : s.size ≤ 300) : (storeB s).size = s.size + 5 := by
  rw [← chars_length, chars_store h, store_length, chars_length]
theorem not_empty {y : ByteArray} (h : 0 < y.size) : y.toList.isEmpty = false := by
  have hl : y.toList.length = y.size := by rw [ByteArray.toList_eq, Array.length_toList]; rfl
  cases hd : y.toList with
  | nil => rw [hd] at hl; simp at hl; omega
  | cons _ _ => rfl
theorem bits_bent : ∀ b : Nat, b < 256 → Go.bits .xor .u8 (b : Int) 4 = ((b ^^^ 4 : Nat) : Int) := by decide +kernel
theorem By.one (w : World) (v : Nat) : By (w.alloc (.cells #[.int .u8 (v : Int)] 5)) w.heap.size 1 [v] := by
  refine ⟨⟨?_, fun g hg => by simp [Value.ownBlock] at hg; exact hg.symm⟩⟩
  exact World.ownsRow_lit w (base := 0) (e := 5) (size := 1) #[.int .u8 (v : Int)] 1 (Nat.zero_le _) (by unfold maxLen; omega) (by simp)
theorem got_none {x : ByteArray} (h : flate (chars x) = none) : gotOf x = .tuple #[.string ⟨#[]⟩, .int .i64 0, .bool false] := by
  unfold gotOf
  rw [h]
theorem chars_append (a b : ByteArray) : chars (a ++ b) = chars a ++ chars b := by
  unfold chars
  rw [ByteArray.data_append, Array.toList_append, List.map_append]
theorem chars_head (y : ByteArray) (q : Nat) : chars (y.extract 0 q) = (chars y).take q := by
  unfold chars
  rw [Lib.extract_data, List.map_take]
  simp
theorem chars_tail (y : ByteArray) (q : Nat) : chars (y.extract q y.size) = (chars y).drop q := by
  unfold chars
  rw [Lib.extract_to_end, List.map_drop]
theorem got_of {x s : ByteArray} {n : Nat} (h : flate (chars x) = some (chars s, n)) : gotOf x = .tuple #[.string s, .int .i64 (n : Int), .bool true] := by
  unfold gotOf
  rw [h]
  simp only []
  rw [strB_chars]
theorem got_store {s : ByteArray} (h : s.size ≤ 300) : gotOf (storeB s) = .tuple #[.string s, .int .i64 ((s.size + 5 : Nat) : Int), .bool true] := by
  refine got_of ?_
  rw [chars_store h, store_flate (chars_lt s) (by rw [chars_length]; exact h), store_length, chars_length]
theorem got_fixed {s : ByteArray} (h : s.size ≤ 300) : gotOf (fixedB s) = .tuple #[.string s, .int .i64 ((fixedB s).size : Int), .bool true] := by
  refine got_of ?_
  have hl := fixed_length (chars_lt s) (by rw [chars_length]; exact h)
  rw [chars_fixed h, fixed_flate (chars_lt s) (by rw [chars_length]; exact h) (by omega), ← chars_length (fixedB s), chars_fixed h]
theorem head_kind {l : List Nat} {b : Bool} {k : Nat} {r : List Bool} (hk : k < 4) (h : unpack l = b :: (bitsOf k 2 ++ r)) : l.getD 0 0 / 2 % 4 = k := by
  cases l with
  | nil => cases h
  | cons y t =>
    have e : unpack (y :: t) = (y % 2 == 1) :: (y / 2 % 2 == 1) :: (y / 2 / 2 % 2 == 1) :: ((bitsOf (y / 2 / 2 / 2) 5) ++ unpack t) := rfl
    have e2 : bitsOf k 2 = [k % 2 == 1, k / 2 % 2 == 1] := rfl
    rw [e, e2] at h
    simp only [List.cons.injEq, List.cons_append] at h
    obtain ⟨_, h1, h2, _⟩ := h
    have h1' : (y / 2 % 2 = 1) ↔ (k % 2 = 1) := by have := congrArg (· = true) h1; simpa using this
    have h2' : (y / 2 / 2 % 2 = 1) ↔ (k / 2 % 2 = 1) := by have := congrArg (· = true) h2; simpa using this
    show y / 2 % 4 = k
    omega
theorem kind_store {s : ByteArray} (h : s.size ≤ 300) : kindOf (chars (storeB s)) = 0 := by
  unfold kindOf
  rw [chars_store h, store_flate (chars_lt s) (by rw [chars_length]; exact h)]
  simp only []
  rw [head_kind (k := 0) (by omega) unpack_store]; rfl
theorem kind_fixed {s : ByteArray} (h : s.size ≤ 300) : kindOf (chars (fixedB s)) = 1 := by
  unfold kindOf
  have hl := fixed_length (chars_lt s) (by rw [chars_length]; exact h)
  rw [chars_fixed h, fixed_flate (chars_lt s) (by rw [chars_length]; exact h) (by omega)]
  simp only []
  rw [head_kind (k := 1) (by omega) (fixed_bits _)]; rfl
set_option maxRecDepth 100000 in
theorem law_flstore (a0 : Option Addr) (len0 cap0 : Nat) (z0 : List Int) (w : World) (hx : ∃ x, Ord w x) (w0 : (a0 = none ∧ len0 = 0 ∧ cap0 = 0 ∧ z0 = []) ∨ ∃ x, a0 = some x ∧ len0 ≤ cap0 ∧ cap0 ≤ maxLen ∧ z0.length = cap0 ∧ (∀ i, i < z0.length → w.cell? (x.add i) = some (.int .u8 (z0.getD i 0))) ∧ ∀ n ∈ z0, (Lit.int .u8 n).wf = true) :
    Calls Tryd.prog 4 #[.slice a0 len0 cap0] w (Tells w (.bool true)) := by
  obtain ⟨x, hO⟩ := hx
  by_cases hb : (1048576 : Int) < len0
  · go_enter Tryd.func4, Tryd.ntmps4
    go_wp2_with fail
    go_ret
    exact ⟨rfl, On.refl _⟩
  have hb' : (len0 : Int) ≤ 1048576 := by omega
  go_enter Tryd.func4, Tryd.ntmps4
  go_wp2_with fail
  refine (drawstore_calls a0 len0 cap0 z0 w w0).mono ?_
  rintro e w1 ⟨s, hs, rfl, O⟩
  clear hs
  go_wp2_with fail
  refine (istore_calls s w1).mono ?_
  rintro e w2 ⟨rfl, O2⟩
  replace O := O.call O2
  go_wp2_with fail
  refine (sput_store_calls s w2).mono ?_
  rintro e w3 ⟨rfl, O3⟩
  replace O := O.call O3
  by_cases h3 : s.size ≤ 300
  · have hs2 := storeB_size h3
    have HG := Lib.hid (got_store h3)
    have HK := Lib.hid (kind_store h3)
    have HF := Lib.hid (flateget_calls x (storeB s) w3 (hO.on O))
    have h3' : (s.size : Int) ≤ 300 := by omega
    generalize hx : storeB s = y at *
    go_wp2_with fail
    refine HF.out.mono ?_
    rintro e w4 ⟨rfl, O4⟩
    replace O := O.call O4
    rw [HG.out]
    have HK2 := Lib.hid (flatekind_calls x y w4 (hO.on O))
    have e5 : IntKind.i64.wrap ((s.size : Int) + 5) = ((s.size + 5 : Nat) : Int) := by rw [IntKind.wrap_i64]; omega
    have e6 : ((s.size + 5 : Nat) : Int) = (y.size : Int) := by omega
    go_wp2_with fail
    refine HK2.out.mono ?_
    rintro e w5 ⟨rfl, O5⟩
    rw [HK.out]
    go_wp2_with fail
    go_ret
    exact ⟨rfl, O.call O5⟩
  · have h3' : (300 : Int) < s.size := by omega
    go_wp2_with fail
    refine (sput_store_calls s w3).mono ?_
    rintro e w4 ⟨rfl, O4⟩
    go_wp2_with fail
    go_ret
    exact ⟨by simp, O.call O4⟩
set_option maxRecDepth 100000 in
theorem law_flfixed (a0 : Option Addr) (len0 cap0 : Nat) (z0 : List Int) (w : World) (hx : ∃ x, Ord w x) (w0 : (a0 = none ∧ len0 = 0 ∧ cap0 = 0 ∧ z0 = []) ∨ ∃ x, a0 = some x ∧ len0 ≤ cap0 ∧ cap0 ≤ maxLen ∧ z0.length = cap0 ∧ (∀ i, i < z0.length → w.cell? (x.add i) = some (.int .u8 (z0.getD i 0))) ∧ ∀ n ∈ z0, (Lit.int .u8 n).wf = true) :
    Calls Tryd.prog 9 #[.slice a0 len0 cap0] w (Tells w (.bool true)) := by
  obtain ⟨x, hO⟩ := hx
  by_cases hb : (1048576 : Int) < len0
  · go_enter Tryd.func9, Tryd.ntmps9
    go_wp2_with fail
    go_ret
    exact ⟨rfl, On.refl _⟩
  have hb' : (len0 : Int) ≤ 1048576 := by omega
  go_enter Tryd.func9, Tryd.ntmps9
  go_wp2_with fail
  refine (drawfixed_calls a0 len0 cap0 z0 w w0).mono ?_
  rintro e w1 ⟨s, hs, rfl, O⟩
  clear hs
  go_wp2_with fail
  refine (ifixedput_calls s w1).mono ?_
  rintro e w2 ⟨rfl, O2⟩
  replace O := O.call O2
  go_wp2_with fail
  refine (sfixedput_calls s w2).mono ?_
  rintro e w3 ⟨rfl, O3⟩
  replace O := O.call O3
  by_cases h3 : s.size ≤ 300
  · have HG := Lib.hid (got_fixed h3)
    have HK := Lib.hid (kind_fixed h3)
    have HF := Lib.hid (flateget_calls x (fixedB s) w3 (hO.on O))
    have h3' : (s.size : Int) ≤ 300 := by omega
    generalize hx : fixedB s = y at *
    go_wp2_with fail
    refine HF.out.mono ?_
    rintro e w4 ⟨rfl, O4⟩
    replace O := O.call O4
    rw [HG.out]
    have HK2 := Lib.hid (flatekind_calls x y w4 (hO.on O))
    go_wp2_with fail
    refine HK2.out.mono ?_
    rintro e w5 ⟨rfl, O5⟩
    rw [HK.out]
    go_wp2_with fail
    go_ret
    exact ⟨rfl, O.call O5⟩
  · have h3' : (300 : Int) < s.size := by omega
    go_wp2_with fail
    refine (sfixedput_calls s w3).mono ?_
    rintro e w4 ⟨rfl, O4⟩
    go_wp2_with fail
    go_ret
    exact ⟨by simp, O.call O4⟩
set_option maxRecDepth 100000 in
theorem law_flbad (a0 : Option Addr) (len0 cap0 : Nat) (z0 : List Int) (a1 : Option Addr) (len1 cap1 : Nat) (z1 : List Int) (w : World) (hx : ∃ x, Ord w x) (w0 : (a0 = none ∧ len0 = 0 ∧ cap0 = 0 ∧ z0 = []) ∨ ∃ x, a0 = some x ∧ len0 ≤ cap0 ∧ cap0 ≤ maxLen ∧ z0.length = cap0 ∧ (∀ i, i < z0.length → w.cell? (x.add i) = some (.int .u8 (z0.getD i 0))) ∧ ∀ n ∈ z0, (Lit.int .u8 n).wf = true)
    (w1 : (a1 = none ∧ len1 = 0 ∧ cap1 = 0 ∧ z1 = []) ∨ ∃ x, a1 = some x ∧ len1 ≤ cap1 ∧ cap1 ≤ maxLen ∧ z1.length = cap1 ∧ (∀ i, i < z1.length → w.cell? (x.add i) = some (.int .u8 (z1.getD i 0))) ∧ ∀ n ∈ z1, (Lit.int .u8 n).wf = true) :
    Calls Tryd.prog 3 #[.slice a0 len0 cap0, .slice a1 len1 cap1] w (Tells w (.bool true)) := by
  obtain ⟨x, hO⟩ := hx
  clear w1
  by_cases hb : (1048576 : Int) < len0
  · go_enter Tryd.func3, Tryd.ntmps3
    go_wp2_with fail
    go_ret
    exact ⟨rfl, On.refl _⟩
  have hb' : (len0 : Int) ≤ 1048576 := by omega
  by_cases hc : (1048576 : Int) < len1
  · go_enter Tryd.func3, Tryd.ntmps3
    go_wp2_with fail
    go_ret
    exact ⟨rfl, On.refl _⟩
  have hc' : (len1 : Int) ≤ 1048576 := by omega
  have e4 : Int.tmod (len1 : Int) 4 = ((len1 % 4 : Nat) : Int) := tmod_nat len1 4
  have hk4 : len1 % 4 < 4 := Nat.mod_lt _ (by omega)
  generalize len1 % 4 = k at *
  have ek : IntKind.i64.wrap (1 + (k : Int)) = ((1 + k : Nat) : Int) := by rw [IntKind.wrap_i64]; omega
  go_enter Tryd.func3, Tryd.ntmps3
  go_wp2_with fail
  refine (drawstore_calls a0 len0 cap0 z0 w w0).mono ?_
  rintro e w1 ⟨s, hs, rfl, O⟩
  clear hs
  go_wp2_with fail
  refine (istore_calls s w1).mono ?_
  rintro e w2 ⟨rfl, O2⟩
  replace O := O.call O2
  go_wp2_with fail
  refine (sput_store_calls s w2).mono ?_
  rintro e w3 ⟨rfl, O3⟩
  replace O := O.call O3
  by_cases h3 : s.size ≤ 300
  · have hs2 := storeB_size h3
    obtain ⟨y, hy⟩ : ∃ y, storeB s = y := ⟨_, rfl⟩
    have HY := Lib.hid hy
    rw [hy] at hs2 ⊢
    clear hy
    have hne : y.toList.isEmpty = false := not_empty (by omega)
    obtain ⟨q, hq⟩ : ∃ q, 1 + k = q := ⟨_, rfl⟩
    rw [hq] at ek
    have q1 : 1 ≤ q := by omega
    have q4 : q ≤ 4 := by omega
    clear hq
    have hq1 : (q : Int) < y.size := by omega
    have hq2 : (q : Int) ≤ y.size := by omega
    have hq3 : (q : Int) + 1 ≤ y.size := by omega
    have ek2 : IntKind.i64.wrap ((q : Int) + 1) = (q : Int) + 1 := by rw [IntKind.wrap_i64]; omega
    have HS2 := Lib.hid hs2
    have hqs : q < y.size := by omega
    clear hs2
    obtain ⟨v, hv⟩ : ∃ v, y[q].toNat ^^^ 4 = v := ⟨_, rfl⟩
    have ex : Go.bits .xor .u8 (y[q].toNat : Int) 4 = (v : Int) := by rw [← hv]; exact bits_bent _ y[q].toNat_lt
    have HV := Lib.hid hv
    clear hv
    have cv : (convert 22 9 (.slice (some ⟨w3.heap.size, 0, none⟩) 1 1)).run Tryd.prog (w3.alloc (.cells #[.int .u8 (v : Int)] 5)).drew = .ok (.string (strB [v])) (w3.alloc (.cells #[.int .u8 (v : Int)] 5)).drew := bytes_conv ((By.one w3 v).on ((On.refl _).drew)).out
    obtain ⟨x2, hx2⟩ : ∃ x2, strB [v] = x2 := ⟨_, rfl⟩
    have hs2 : x2.size = 1 := by rw [← hx2, strB_size]; rfl
    rw [hx2] at cv
    have HX2 := Lib.hid hx2
    clear hx2
    obtain ⟨x1, hx1⟩ : ∃ x1, y.extract 0 q = x1 := ⟨_, rfl⟩
    have hs1 : x1.size = q := by rw [← hx1, ByteArray.size_extract]; omega
    obtain ⟨x3, hx3⟩ : ∃ x3, y.extract (q + 1) y.size = x3 := ⟨_, rfl⟩
    obtain ⟨n3, hn3⟩ : ∃ n3, y.size - (q + 1) = n3 := ⟨_, rfl⟩
    have hs3 : x3.size = n3 := by rw [← hx3, ByteArray.size_extract, ← hn3]; omega
    have hn4 : n3 ≤ 400 := by have := HS2.out; omega
    have f1 : ¬ 9223372036854775807 < q + 1 := by omega
    have f2 : ¬ 9223372036854775807 < q + 1 + n3 := by omega
    clear hn3
    have HN : RowKit.Hid (gotOf (x1 ++ x2 ++ x3) = .tuple #[.string ⟨#[]⟩, .int .i64 0, .bool false]) := Lib.hid (by
      refine got_none ?_
      rw [chars_append, chars_append, ← hx1, ← hx3, ← HX2.out, chars_head, chars_tail, ← HY.out, chars_store h3, ← HV.out, chars_strB (by intro z hz; simp at hz; rw [hz]; exact (xor4 _ y[q].toNat_lt).1), ← chars_at y hqs, ← HY.out, chars_store h3, List.append_assoc]
      exact store_bent _ (by rw [chars_length]; exact h3) q q1 q4)
    go_wp2_with fail
    go_region
    have O4 : On w ((w3.alloc (.cells #[.int .u8 (v : Int)] 5)).drew) := (O.alloc _).drew
    go_wp2_with fail
    refine (flateget_calls x _ _ (hO.on O4)).mono ?_
    rintro e w4 ⟨rfl, O5⟩
    rw [HN.out]
    go_wp2_with fail
    go_ret
    exact ⟨rfl, O4.call O5⟩
  · have h3' : storeB s = ⟨#[]⟩ := by unfold storeB; rw [if_neg h3]
    rw [h3']
    go_wp2_with fail
    refine (sput_store_calls s w3).mono ?_
    rintro e w4 ⟨rfl, O4⟩
    rw [h3']
    go_wp2_with fail
    go_ret
    exact ⟨by simp, O.call O4⟩
theorem w0_on {a0 : Option Addr} {len0 cap0 : Nat} {z0 : List Int} {w w' : World} (O : On w w') (w0 : (a0 = none ∧ len0 = 0 ∧ cap0 = 0 ∧ z0 = []) ∨ ∃ x, a0 = some x ∧ len0 ≤ cap0 ∧ cap0 ≤ maxLen ∧ z0.length = cap0 ∧ (∀ i, i < z0.length → w.cell? (x.add i) = some (.int .u8 (z0.getD i 0))) ∧ ∀ n ∈ z0, (Lit.int .u8 n).wf = true) :
    (a0 = none ∧ len0 = 0 ∧ cap0 = 0 ∧ z0 = []) ∨ ∃ x, a0 = some x ∧ len0 ≤ cap0 ∧ cap0 ≤ maxLen ∧ z0.length = cap0 ∧ (∀ i, i < z0.length → w'.cell? (x.add i) = some (.int .u8 (z0.getD i 0))) ∧ ∀ n ∈ z0, (Lit.int .u8 n).wf = true := by
  rcases w0 with h | ⟨x, rfl, h1, h2, h3, h4, h5⟩
  · exact .inl h
  · refine .inr ⟨x, rfl, h1, h2, h3, fun i hi => ?_, h5⟩
    rw [← h4 i hi]
    exact O.cell (World.block_lt_of_cell? w _ (h4 i hi))
set_option maxRecDepth 100000 in
theorem law_fltwo (a0 : Option Addr) (len0 cap0 : Nat) (z0 : List Int) (a1 : Option Addr) (len1 cap1 : Nat) (z1 : List Int) (w : World) (hx : ∃ x, Ord w x) (w0 : (a0 = none ∧ len0 = 0 ∧ cap0 = 0 ∧ z0 = []) ∨ ∃ x, a0 = some x ∧ len0 ≤ cap0 ∧ cap0 ≤ maxLen ∧ z0.length = cap0 ∧ (∀ i, i < z0.length → w.cell? (x.add i) = some (.int .u8 (z0.getD i 0))) ∧ ∀ n ∈ z0, (Lit.int .u8 n).wf = true)
    (w1 : (a1 = none ∧ len1 = 0 ∧ cap1 = 0 ∧ z1 = []) ∨ ∃ x, a1 = some x ∧ len1 ≤ cap1 ∧ cap1 ≤ maxLen ∧ z1.length = cap1 ∧ (∀ i, i < z1.length → w.cell? (x.add i) = some (.int .u8 (z1.getD i 0))) ∧ ∀ n ∈ z1, (Lit.int .u8 n).wf = true) :
    Calls Tryd.prog 5 #[.slice a0 len0 cap0, .slice a1 len1 cap1] w (Tells w (.bool true)) := by
  obtain ⟨x, hO⟩ := hx
  by_cases hb : (1048576 : Int) < len0
  · go_enter Tryd.func5, Tryd.ntmps5
    go_wp2_with fail
    go_ret
    exact ⟨rfl, On.refl _⟩
  have hb' : (len0 : Int) ≤ 1048576 := by omega
  by_cases hc : (1048576 : Int) < len1
  · go_enter Tryd.func5, Tryd.ntmps5
    go_wp2_with fail
    go_ret
    exact ⟨rfl, On.refl _⟩
  have hc' : (len1 : Int) ≤ 1048576 := by omega
  have W1 := Lib.hid w1
  clear w1
  go_enter Tryd.func5, Tryd.ntmps5
  go_wp2_with fail
  refine (drawstore_calls a0 len0 cap0 z0 w w0).mono ?_
  rintro e w1 ⟨s, hs, rfl, O⟩
  go_wp2_with fail
  refine (drawstore_calls a1 len1 cap1 z1 w1 (w0_on O W1.out)).mono ?_
  rintro e w2 ⟨t, ht, rfl, O2⟩
  replace O := O.call O2
  go_wp2_with fail
  refine (istore_calls s w2).mono ?_
  rintro e w3 ⟨rfl, O3⟩
  replace O := O.call O3
  go_wp2_with fail
  refine (ifixedput_calls t w3).mono ?_
  rintro e w4 ⟨rfl, O4⟩
  replace O := O.call O4
  go_wp2_with fail
  refine (sput_store_calls s w4).mono ?_
  rintro e w5 ⟨rfl, O5⟩
  replace O := O.call O5
  by_cases h1 : s.size ≤ 300
  · by_cases h2 : t.size ≤ 300
    · have hsa := storeB_size h1
      have hl := fixed_length (chars_lt t) (by rw [chars_length]; exact h2)
      have hsb : (fixedB t).size = (fixed (chars t)).length := by rw [← chars_length, chars_fixed h2]
      have H2 := store_two (chars s) (chars t) (chars_lt s) (chars_lt t) (by rw [chars_length]; exact h1) (by rw [chars_length]; exact h2) (by rw [store_length, chars_length]; omega)
      rw [chars_length, chars_length, store_length, chars_length, ← hsb] at H2
      have CA := chars_store h1
      have CB := chars_fixed h2
      obtain ⟨a, ha⟩ : ∃ a, storeB s = a := ⟨_, rfl⟩
      obtain ⟨b, hb⟩ : ∃ b, fixedB t = b := ⟨_, rfl⟩
      rw [ha] at hsa CA
      rw [hb] at hsb CB H2
      have HA := Lib.hid ha
      have HB := Lib.hid hb
      rw [ha, hb]
      clear ha hb
      obtain ⟨a2, ha2⟩ : ∃ a2, a.extract 1 a.size = a2 := ⟨_, rfl⟩
      have hsa2 : a2.size = s.size + 4 := by rw [← ha2, ByteArray.size_extract]; omega
      have CX : RowKit.Hid (chars ((⟨#[0]⟩ : ByteArray) ++ a2 ++ b) = 0 :: ((En.store (chars s)).drop 1 ++ fixed (chars t))) := Lib.hid (by
        rw [chars_append, chars_append, ← ha2, chars_tail, CA, CB]; rfl)
      have ha0 : a.toList.isEmpty = false := not_empty (by omega)
      have hb0 : b.toList.isEmpty = false := not_empty (by omega)
      have n1 : 1 ≤ a.size := by omega
      have n1' : (1 : Int) ≤ a.size := by omega
      have n2 : ¬ ((700 : Int) < (a.size : Int) + (b.size : Int)) := by omega
      have n3 : a2.size ≤ 400 := by omega
      have n4 : b.size ≤ 400 := by omega
      have n5 : a.size ≤ 400 := by omega
      have HSA := Lib.hid hsa
      have HSB := Lib.hid hsb
      clear CA CB hsa hsa2 hsb hl HA HB
      by_cases h3 : s.size + t.size ≤ 300
      · rw [if_pos h3] at H2
        have HG : RowKit.Hid (gotOf ((⟨#[0]⟩ : ByteArray) ++ a2 ++ b) = .tuple #[.string (s ++ t), .int .i64 ((a.size + b.size : Nat) : Int), .bool true]) := Lib.hid (got_of (by
          rw [CX.out, H2, chars_append, HSA.out]))
        have h3' : ¬ ((300 : Int) < (s.size : Int) + (t.size : Int)) := by omega
        clear H2
        go_wp2_with fail
        refine (flateget_calls x _ w5 (hO.on O)).mono ?_
        rintro e w6 ⟨rfl, O6⟩
        rw [HG.out]
        go_wp2_with fail
        go_ret
        exact ⟨rfl, O.call O6⟩
      · rw [if_neg h3] at H2
        have HG : RowKit.Hid (gotOf ((⟨#[0]⟩ : ByteArray) ++ a2 ++ b) = .tuple #[.string ⟨#[]⟩, .int .i64 0, .bool false]) := Lib.hid (got_none (by
          rw [CX.out, H2]))
        have h3' : (300 : Int) < (s.size : Int) + (t.size : Int) := by omega
        clear H2
        go_wp2_with fail
        refine (flateget_calls x _ w5 (hO.on O)).mono ?_
        rintro e w6 ⟨rfl, O6⟩
        rw [HG.out]
        go_wp2_with fail
        go_ret
        exact ⟨rfl, O.call O6⟩
    · have h3' : fixedB t = ⟨#[]⟩ := by unfold fixedB; rw [if_neg h2]
      rw [h3']
      have hsa := storeB_size h1
      have ha0 : (storeB s).toList.isEmpty = false := not_empty (by omega)
      clear hsa
      go_wp2_with fail
      refine (sput_store_calls s w5).mono ?_
      rintro e w6 ⟨rfl, O6⟩
      go_wp2_with fail
      go_ret
      exact ⟨by simp, O.call O6⟩
  · have h3' : storeB s = ⟨#[]⟩ := by unfold storeB; rw [if_neg h1]
    rw [h3']
    go_wp2_with fail
    refine (sput_store_calls s w5).mono ?_
    rintro e w6 ⟨rfl, O6⟩
    rw [h3']
    go_wp2_with fail
    go_ret
    exact ⟨by simp, O.call O6⟩
end Go.Proofs.YtncidljdfipigaaDoor.Wi

/- How often symbols come, step by step. Nothing of the program stands here. -/
namespace Go.Proofs.YtncidljdfipigaaDoor.Wi
open Go.Proofs.YtncidljdfipigaaDoor.Bt Go.Proofs.YtncidljdfipigaaDoor.Cd Go.Proofs.YtncidljdfipigaaDoor.De Go.Proofs.YtncidljdfipigaaDoor.En Go.Proofs.YtncidljdfipigaaDoor.Lz Go.Proofs.YtncidljdfipigaaDoor.Hf
set_option linter.unusedVariables false
/-- The first k tokens are counted. -/
def cntLTo (l : List Tok) (k : Nat) : List Nat := bump ((List.replicate 286 0).set 256 1) (symsL (l.take k))
def cntBTo (l : List Tok) (k : Nat) : List Nat := bump (List.replicate 30 0) (symsB (l.take k))
def symL (t : Tok) : Nat := if t.long = 0 then t.byte.toNat else 257 + lad longBase t.long.toNat
theorem cntLTo_length (l : List Tok) (k : Nat) : (cntLTo l k).length = 286 := by unfold cntLTo; rw [bump_length, List.length_set, List.length_replicate]
theorem cntBTo_length (l : List Tok) (k : Nat) : (cntBTo l k).length = 30 := by unfold cntBTo; rw [bump_length, List.length_replicate]
theorem cntLTo_zero (l : List Tok) : cntLTo l 0 = (List.replicate 286 0).set 256 1 := by unfold cntLTo; rw [List.take_zero]; rfl
theorem cntBTo_zero (l : List Tok) : cntBTo l 0 = List.replicate 30 0 := by unfold cntBTo; rw [List.take_zero]; rfl
theorem cntLTo_succ {l : List Tok} {k : Nat} (h : k < l.length) : cntLTo l (k + 1) = (cntLTo l k).set (symL l[k]) ((cntLTo l k).getD (symL l[k]) 0 + 1) := by
  unfold cntLTo
  rw [List.take_succ_eq_append_getElem h]
  unfold symsL
  rw [List.map_append, bump_append]
  rfl
theorem cntBTo_long {l : List Tok} {k : Nat} (h : k < l.length) (h0 : l[k].long ≠ 0) : cntBTo l (k + 1) = (cntBTo l k).set (lad backBase l[k].back.toNat) ((cntBTo l k).getD (lad backBase l[k].back.toNat) 0 + 1) := by
  unfold cntBTo
  rw [List.take_succ_eq_append_getElem h]
  unfold symsB
  rw [List.filter_append, List.map_append, bump_append, List.filter_cons, if_pos (by simpa using h0)]
  rfl
theorem cntBTo_byte {l : List Tok} {k : Nat} (h : k < l.length) (h0 : l[k].long = 0) : cntBTo l (k + 1) = cntBTo l k := by
  unfold cntBTo
  rw [List.take_succ_eq_append_getElem h]
  unfold symsB
  rw [List.filter_append, List.map_append, bump_append, List.filter_cons, if_neg (by simpa using h0)]
  rfl
theorem bump_le {base S : List Nat} {m : Nat} (hb : ∀ x ∈ base, x ≤ m) : ∀ x ∈ bump base S, x ≤ m + S.length := by
  refine getD_le' fun i hi => ?_
  rw [bump_length] at hi
  rw [bump_get S base i hi]
  have h1 := List.count_le_length (a := i) (l := S)
  have h2 := Cd.getD_le hb i
  omega
theorem base_le : ∀ x ∈ (List.replicate 286 0).set 256 1, x ≤ 1 := by
  intro x hx
  rcases List.mem_or_eq_of_mem_set hx with h | h
  · have := List.eq_of_mem_replicate h; omega
  · omega
theorem cntLTo_le (l : List Tok) (k : Nat) : ∀ x ∈ cntLTo l k, x ≤ 1 + k := by
  intro x hx
  have := bump_le base_le x hx
  have h2 : (symsL (l.take k)).length ≤ k := by unfold symsL; rw [List.length_map, List.length_take]; omega
  omega
theorem cntBTo_le (l : List Tok) (k : Nat) : ∀ x ∈ cntBTo l k, x ≤ k := by
  intro x hx
  have := bump_le (base := List.replicate 30 0) (m := 0) (fun x hx => by have := List.eq_of_mem_replicate hx; omega) x hx
  have h2 : (symsB (l.take k)).length ≤ k := by
    unfold symsB
    rw [List.length_map]
    have := List.length_filter_le (fun t : Tok => decide (t.long ≠ 0)) (l.take k)
    rw [List.length_take] at this; omega
  omega
theorem cntLTo_all (l : List Tok) : cntLTo l l.length = cntL l := by unfold cntLTo cntL; rw [List.take_length]
theorem symL_lt {lit dist : List Nat} {t : Tok} (F : Fine lit dist t) : symL t < 286 := by
  unfold symL
  by_cases h : t.long = 0
  · rw [if_pos h]; have := F.byte h; omega
  · rw [if_neg h]
    have := F.long h
    have := (lad_long t.long.toNat (by omega) (by omega)).1
    omega
theorem symB_lt {lit dist : List Nat} {t : Tok} (F : Fine lit dist t) (h : t.long ≠ 0) : lad backBase t.back.toNat < 30 := by
  have := F.long h
  exact (lad_back t.back.toNat (by omega) (by omega)).1
theorem used_pos {l : List Nat} {k : Nat} (h : 1 ≤ l.getD k 0) : used l ≠ 0 := by
  unfold used
  intro e
  have := List.eq_nil_of_length_eq_zero e
  have hk := lt_of_getD h
  have hm : l[k] ∈ l.filter fun l => decide (0 < l) := by
    rw [List.mem_filter]
    refine ⟨List.getElem_mem hk, ?_⟩
    rw [List.getD_eq_getElem?_getD, List.getElem?_eq_getElem hk] at h
    have h : 1 ≤ l[k] := h
    simp; omega
  rw [this] at hm
  cases hm
theorem cntB_is {l : List Tok} (F : ∀ t ∈ l, Fine [] [] t) : cntB l = if used (cntBTo l l.length) = 0 then (cntBTo l l.length).set 0 1 else cntBTo l l.length := by
  have e : cntBTo l l.length = bump (List.replicate 30 0) (symsB l) := by unfold cntBTo; rw [List.take_length]
  rw [e]
  unfold cntB
  by_cases h : symsB l = []
  · rw [if_pos h, h]
    rw [show bump (List.replicate 30 0) [] = List.replicate 30 0 from rfl, used_zeros, if_pos rfl]
  · rw [if_neg h]
    obtain ⟨s, r, hs⟩ := List.exists_cons_of_ne_nil h
    have hm : s ∈ symsB l := by rw [hs]; simp
    have hlt : s < 30 := by
      unfold symsB at hm
      obtain ⟨t, ht, rfl⟩ := List.mem_map.1 hm
      obtain ⟨h1, h2⟩ := List.mem_filter.1 ht
      exact symB_lt (F t h1) (by simpa using h2)
    rw [if_neg (used_pos (bump_pos hm (by simpa using hlt)))]
/-- Sums: numbers counted. -/
theorem cntM_le (all : List Nat) (k : Nat) : ∀ x ∈ bump (List.replicate 19 0) (all.take k), x ≤ k := by
  intro x hx
  have := bump_le (base := List.replicate 19 0) (m := 0) (fun x hx => by have := List.eq_of_mem_replicate hx; omega) x hx
  rw [List.length_take] at this; omega
theorem cntM_succ {all : List Nat} {k : Nat} (h : k < all.length) : bump (List.replicate 19 0) (all.take (k + 1)) = (bump (List.replicate 19 0) (all.take k)).set (all.getD k 0) ((bump (List.replicate 19 0) (all.take k)).getD (all.getD k 0) 0 + 1) := by
  rw [List.take_succ_eq_append_getElem h, bump_append, List.getD_eq_getElem?_getD (i := k), List.getElem?_eq_getElem h]
  rfl
theorem flat_succ {α : Type} {l : List Nat} (f : Nat → List α) {k : Nat} (h : k < l.length) : (l.take (k + 1)).flatMap f = (l.take k).flatMap f ++ f (l.getD k 0) := by
  rw [List.take_succ_eq_append_getElem h, List.flatMap_append, List.getD_eq_getElem?_getD, List.getElem?_eq_getElem h]
  simp
theorem flat_len {α : Type} (l : List Nat) (f : Nat → List α) {m : Nat} (h : ∀ x, (f x).length ≤ m) : (l.flatMap f).length ≤ l.length * m := by
  induction l with
  | nil => simp
  | cons x l ih =>
    rw [List.flatMap_cons, List.length_append, List.length_cons, Nat.add_mul]
    have := h x
    omega
end Go.Proofs.YtncidljdfipigaaDoor.Wi

/- Rows of trees (how often, the least symbol, the symbols) in memory; the greatest of numbers; the least of trees. Conditions: rows that are only read. -/
namespace Go.Proofs.YtncidljdfipigaaDoor.Wi
open Go.RowKit Go.Proofs.YtncidljdfipigaaDoor.Mem Go.Proofs.YtncidljdfipigaaDoor.Hf
set_option linter.unusedVariables false
set_option linter.unusedSimpArgs false
/-- A tree, and where its symbols lie: a block, a capacity. -/
abbrev Tr := It × Nat × Nat
def tcell (x : Tr) : List Value := [.int .i64 (x.1.c : Int), .int .i64 (x.1.f : Int), .slice (some ⟨x.2.1, 0, none⟩) x.1.s.length x.2.2]
def tcells (X : List Tr) : List Value := X.flatMap tcell
theorem tcells_length (X : List Tr) : (tcells X).length = 3 * X.length := by
  induction X with
  | nil => rfl
  | cons x X ih =>
    have e : tcells (x :: X) = tcell x ++ tcells X := rfl
    rw [e, List.length_append, ih, List.length_cons]
    show 3 + _ = _
    omega
theorem tcells_append (X Y : List Tr) : tcells (X ++ Y) = tcells X ++ tcells Y := by unfold tcells; rw [List.flatMap_append]
theorem tcells_get : ∀ (X : List Tr) {i : Nat} (h : i < X.length), (tcells X)[3 * i]? = some (.int .i64 (X[i].1.c : Int)) ∧ (tcells X)[3 * i + 1]? = some (.int .i64 (X[i].1.f : Int)) ∧ (tcells X)[3 * i + 2]? = some (.slice (some ⟨X[i].2.1, 0, none⟩) X[i].1.s.length X[i].2.2)
  | x :: X, 0, _ => ⟨rfl, rfl, rfl⟩
  | x :: X, i + 1, h => by
    have e : tcells (x :: X) = tcell x ++ tcells X := rfl
    have h3 : (tcell x).length = 3 := rfl
    obtain ⟨a, b, c⟩ := tcells_get X (i := i) (by simpa using h)
    rw [e]
    refine ⟨?_, ?_, ?_⟩
    · rw [List.getElem?_append_right (by rw [h3]; omega), h3, show 3 * (i + 1) - 3 = 3 * i from by omega]; exact a
    · rw [List.getElem?_append_right (by rw [h3]; omega), h3, show 3 * (i + 1) + 1 - 3 = 3 * i + 1 from by omega]; exact b
    · rw [List.getElem?_append_right (by rw [h3]; omega), h3, show 3 * (i + 1) + 2 - 3 = 3 * i + 2 from by omega]; exact c
theorem tcells_take : ∀ (X : List Tr) (k : Nat), tcells (X.take k) = (tcells X).take (3 * k)
  | _, 0 => by simp [tcells]
  | [], k + 1 => by simp [tcells]
  | x :: X, k + 1 => by
    have e : tcells (x :: X) = tcell x ++ tcells X := rfl
    have e2 : tcells ((x :: X).take (k + 1)) = tcell x ++ tcells (X.take k) := rfl
    have h3 : (tcell x).length = 3 := rfl
    rw [e, e2, tcells_take X k, List.take_append, h3, show 3 * (k + 1) - 3 = 3 * k from by omega, List.take_of_length_le (l := tcell x) (by rw [h3]; omega)]
theorem tcells_drop : ∀ (X : List Tr) (k : Nat), tcells (X.drop k) = (tcells X).drop (3 * k)
  | _, 0 => by simp
  | [], k + 1 => by simp [tcells]
  | x :: X, k + 1 => by
    have e : tcells (x :: X) = tcell x ++ tcells X := rfl
    have h3 : (tcell x).length = 3 := rfl
    rw [List.drop_succ_cons, tcells_drop X k, e, List.drop_append, h3, show 3 * (k + 1) - 3 = 3 * k from by omega, show List.drop (3 * (k + 1)) (tcell x) = [] from List.drop_eq_nil_of_le (by rw [h3]; omega), List.nil_append]
theorem tcells_erase (X : List Tr) (k : Nat) : tcells (X.eraseIdx k) = (tcells X).take (3 * k) ++ (tcells X).drop (3 * (k + 1)) := by
  rw [List.eraseIdx_eq_take_drop_succ, tcells_append, tcells_take, tcells_drop]
set_option maxRecDepth 100000 in
theorem smost_calls (lens : List Nat) (g o n cap : Nat) (w : World) (hl : RowO w g o 3 (i64s lens)) (hn : lens.length = n) (hn2 : n ≤ 1000) (hnc : n ≤ cap) (hx : ∀ x ∈ lens, x ≤ 1000000000) :
    Calls Tryd.prog 127 #[.slice (some ⟨g, o, none⟩) n cap] w fun e w' => e = .returned (.int .i64 (top lens : Nat)) ∧ On w w' := by
  have HN := Lib.hid hn
  clear hn
  go_enter Tryd.func127, Tryd.ntmps127
  go_wp2_with fail
  go_loopw [3, 4] (fun a x wr => ∃ (k m : Nat), x = .int .i64 (k : Int) ∧ k ≤ n ∧ a = .int .i64 (m : Int) ∧ RowKit.Hid (m = topTo lens k) ∧ On w wr) (fun _ x _ => n - (intOf x).toNat)
  case atStart => exact ⟨0, 0, rfl, by omega, rfl, Lib.hid rfl, On.refl _⟩
  case round =>
    obtain ⟨k, m, rfl, hk, rfl, HM, O⟩ := hrel
    by_cases hlt : k < n
    · have hkl : k < lens.length := by rw [HN.out]; exact hlt
      have c0 := (hl.on O).cell (i64s_get hkl)
      have hmem : lens.getD k 0 ∈ lens := by rw [List.getD_eq_getElem?_getD, List.getElem?_eq_getElem hkl]; exact List.getElem_mem _
      have hx1 := hx _ hmem
      have HT := Lib.hid (show topTo lens (k + 1) = max m (lens.getD k 0) from by rw [topTo, HM.out])
      clear hmem
      generalize lens.getD k 0 = x at *
      have hk2 : (k : Int) < n := by omega
      by_cases h0 : m < x
      · have h0' : (m : Int) < x := by omega
        go_wp2_with fail
        go_roundw
        case rel => exact ⟨k + 1, x, by go_num, by omega, rfl, Lib.hid (by rw [HT.out]; omega), O⟩
        case measure => simp [intOf]; omega
      · have h0' : ¬ (m : Int) < x := by omega
        go_wp2_with fail
        go_roundw
        case rel => exact ⟨k + 1, m, by go_num, by omega, rfl, Lib.hid (by rw [HT.out]; omega), O⟩
        case measure => simp [intOf]; omega
    · obtain rfl : k = n := by omega
      go_wp2_with fail
      go_ret
      exact ⟨by unfold top; rw [HN.out, ← HM.out]; rfl, O⟩
set_option maxRecDepth 100000 in
set_option maxHeartbeats 1000000 in
theorem sleast_calls (X : List Tr) (g n cap : Nat) (w : World) (hX : Row w g 133 (tcells X)) (hn : X.length = n) (hn1 : 1 ≤ n) (hn2 : n ≤ 1000) (hnc : n ≤ cap) (hc : ∀ x ∈ X, x.1.c ≤ 100000000 ∧ x.1.f ≤ 1000) :
    Calls Tryd.prog 147 #[.slice (some ⟨g, 0, none⟩) n cap] w fun e w' => e = .returned (.int .i64 (least (X.map (·.1)) : Nat)) ∧ On w w' := by
  have HN := Lib.hid hn
  clear hn
  have hget : ∀ i, i < n → ∃ c f, c ≤ 100000000 ∧ f ≤ 1000 ∧ ((X.map (·.1)).getD i dflt).c = c ∧ ((X.map (·.1)).getD i dflt).f = f ∧ (∀ w', On w w' → w'.cell? ⟨g, i * 3, none⟩ = some (.int .i64 (c : Int)) ∧ w'.cell? ⟨g, i * 3 + 1, none⟩ = some (.int .i64 (f : Int))) := by
    intro i hi
    have hiX : i < X.length := by rw [HN.out]; exact hi
    obtain ⟨a, b, _⟩ := tcells_get X hiX
    have hm := hc X[i] (List.getElem_mem hiX)
    have e : (X.map (·.1)).getD i dflt = X[i].1 := by rw [List.getD_eq_getElem?_getD, List.getElem?_map, List.getElem?_eq_getElem hiX]; rfl
    refine ⟨X[i].1.c, X[i].1.f, hm.1, hm.2, by rw [e], by rw [e], fun w' O => ⟨?_, ?_⟩⟩
    · rw [Nat.mul_comm i 3]; exact (hX.on O).cell a
    · rw [Nat.mul_comm i 3]; exact (hX.on O).cell b
  have HGET := Lib.hid hget
  clear hget hc hX
  obtain ⟨L, hL⟩ : ∃ L, X.map (·.1) = L := ⟨_, rfl⟩
  have hLn : L.length = n := by rw [← hL, List.length_map, HN.out]
  rw [hL] at HGET ⊢
  have HLN := Lib.hid hLn
  clear hL hLn HN
  go_enter Tryd.func147, Tryd.ntmps147
  go_wp2_with fail
  go_loopw [3, 4] (fun a x wr => ∃ (k m : Nat), x = .int .i64 (k : Int) ∧ 1 ≤ k ∧ k ≤ n ∧ a = .int .i64 (m : Int) ∧ m < n ∧ RowKit.Hid (m = leastTo L (k - 1)) ∧ On w wr) (fun _ x _ => n - (intOf x).toNat)
  case atStart => exact ⟨1, 0, rfl, by omega, hn1, rfl, by omega, Lib.hid rfl, On.refl _⟩
  case round =>
    obtain ⟨k, m, rfl, hk1, hk, rfl, hm, HM, O⟩ := hrel
    by_cases hlt : k < n
    · obtain ⟨ck, fk, hck, hfk, eck, efk, cellk⟩ := HGET.out k hlt
      obtain ⟨cm, fm, hcm, hfm, ecm, efm, cellm⟩ := HGET.out m hm
      have HT := Lib.hid (show leastTo L k = if less (L.getD k dflt) (L.getD m dflt) then k else m from by
        obtain ⟨j, rfl⟩ : ∃ j, k = j + 1 := ⟨k - 1, by omega⟩
        rw [leastTo, HM.out]; rfl)
      have HLS := Lib.hid (show less (L.getD k dflt) (L.getD m dflt) = decide (ck < cm ∨ ck = cm ∧ fk < fm) from by unfold less; rw [eck, efk, ecm, efm])
      clear eck efk ecm efm
      have CK := fun nq => cellk (wr.drewN nq) (O.drewN nq)
      have CM := fun nq => cellm (wr.drewN nq) (O.drewN nq)
      obtain ⟨k0, k1⟩ := cellk wr O
      obtain ⟨m0, m1⟩ := cellm wr O
      clear CK CM cellk cellm
      have hk2 : (k : Int) < n := by omega
      have hm2 : (m : Int) < n := by omega
      by_cases h1 : ck < cm
      · have h1' : decide ((ck : Int) < (cm : Int)) = true := by simp; omega
        have h1'' : (ck : Int) < (cm : Int) := by omega
        go_wp2_with fail
        go_quiet (fail)
        go_wp2_with fail
        go_roundw
        case rel => exact ⟨k + 1, k, by go_num, by omega, by omega, rfl, by omega, Lib.hid (by rw [show k + 1 - 1 = k from by omega, HT.out, HLS.out, if_pos (by simp; omega)]), O.drewN _⟩
        case measure => simp [intOf]; omega
      · have h1' : decide ((ck : Int) < (cm : Int)) = false := by simp; omega
        have h1n : decide (ck < cm) = false := by simp; omega
        by_cases h2 : ck = cm
        · subst h2
          have h2' : ((ck : Int) == (ck : Int)) = true := by simp
          by_cases h3 : fk < fm
          · have h3' : decide ((fk : Int) < (fm : Int)) = true := by simp; omega
            have h3'' : (fk : Int) < (fm : Int) := by omega
            go_wp2_with fail
            go_quiet (fail)
            go_wp2_with fail
            go_roundw
            case rel => exact ⟨k + 1, k, by go_num, by omega, by omega, rfl, by omega, Lib.hid (by rw [show k + 1 - 1 = k from by omega, HT.out, HLS.out, if_pos (by simp; omega)]), O.drewN _⟩
            case measure => simp [intOf]; omega
          · have h3' : decide ((fk : Int) < (fm : Int)) = false := by simp; omega
            have h3n : decide (fk < fm) = false := by simp; omega
            go_wp2_with fail
            go_quiet (fail)
            go_wp2_with fail
            go_roundw
            case rel => exact ⟨k + 1, m, by go_num, by omega, by omega, rfl, by omega, Lib.hid (by rw [show k + 1 - 1 = k from by omega, HT.out, HLS.out, if_neg (by simp; omega)]), O.drewN _⟩
            case measure => simp [intOf]; omega
        · have h2' : ((ck : Int) == (cm : Int)) = false := by simp; omega
          go_wp2_with fail
          go_quiet (fail)
          go_wp2_with fail
          go_roundw
          case rel => exact ⟨k + 1, m, by go_num, by omega, by omega, rfl, by omega, Lib.hid (by rw [show k + 1 - 1 = k from by omega, HT.out, HLS.out, if_neg (by simp; omega)]), O.drewN _⟩
          case measure => simp [intOf]; omega
    · obtain rfl : k = n := by omega
      go_wp2_with fail
      go_ret
      exact ⟨by unfold least; rw [HLN.out, ← HM.out]; rfl, O⟩
end Go.Proofs.YtncidljdfipigaaDoor.Wi

/- A row of trees without one of them. Conditions: a row that is only read. -/
namespace Go.Proofs.YtncidljdfipigaaDoor.Wi
open Go.RowKit Go.Proofs.YtncidljdfipigaaDoor.Mem Go.Proofs.YtncidljdfipigaaDoor.Hf
set_option linter.unusedVariables false
set_option linter.unusedSimpArgs false
/-- append of any many elements onto a row of the call's own, at a step of a region that draws its order. -/
theorem step_append_any {P : Program} {ops : Array Oper} {o : Oper} {a : Act} {K : Act → World → Prop} {Q : Exit → Act → World → Prop} {E : Prop} {w : World} (hgd : o.guard = none) (s x : Operand) (t : TypeId)
    (ho : o.op = .call { callee := .builtin .append, args := #[s, x], argTypes := #[t, t] })
    (base : Nat) (e : TypeId) (i : TypeInfo) (z : Value) (size bytes : Nat) (ht : P.underlying t = some (.slice e)) (hi : P.info? e = some i) (hz : i.zero = some z)
    (hsize : i.size = size) (hby : i.bytes = bytes) (hzs : z.cells.size = size) (hsz : 0 < size)
    (v : Value) (n : Nat) (xs : List Value) (hs : a.eval s = v) (hown : w.ownsRow base e size v n xs)
    (ad : Addr) (m c : Nat) (news : List Value) (hx : a.eval x = .slice (some ad) m c) (hl : news.length = m * size) (hnews : ∀ j u, news[j]? = some u → w.cell? (ad.add j) = some u) (h1 : ∀ u ∈ news, u.oneCell' = true)
    (h63 : n + m ≤ maxLen) (hbytes : (n + m) * bytes ≤ 140737488355328) (hbase : base ≤ w.heap.size)
    (h : ∀ v' w', w'.ownsRow base e size v' (n + m) (xs ++ news) → w.grownBy w' v.ownBlock → (v' = .slice none 0 0 ↔ v = .slice none 0 0 ∧ m = 0) → (v'.ownBlock = v.ownBlock ∨ v'.ownBlock = some w.heap.size) → K (a.put o.dst v') w') :
    if Region.wanted o (yielded ops a.tmps) = true then Oper.wp P o a w K Q else E := by
  have hw : Region.wanted o (yielded ops a.tmps) = true := by simp [Region.wanted, hgd]
  rw [if_pos hw]
  obtain ⟨v', w', hr, h2, h3, h4, h5⟩ := run_append_own_at (P := P) w base t o.type e i z size bytes ht hi hz hsize hby hzs hsz v n xs hown ad m c news hl hnews h1 h63 hbytes hbase
  unfold Oper.wp execOp
  simp only [ho, resolve, invoke, builtin, Sem.run_bind, Sem.run_pure, Result.andThen_ok, List.map_toArray, List.map_cons, List.map_nil, hs, hx, hr]
  exact h v' w' h2 h3 h4 h5
theorem tcells_one (X : List Tr) {u : Value} (hu : u ∈ tcells X) : u.oneCell' = true := by
  unfold tcells at hu
  obtain ⟨x, _, hx⟩ := List.mem_flatMap.1 hu
  simp [tcell] at hx
  rcases hx with rfl | rfl | rfl <;> rfl
theorem tree_info : ∃ i, Tryd.prog.info? 133 = some i ∧ ∃ z, i.zero = some z ∧ i.size = 3 ∧ ∃ b, i.bytes = b ∧ z.cells.size = 3 ∧ b ≤ 1000 := by
  have h : (Tryd.prog.info? 133).map (fun i => (i.zero.map (fun z => z.cells.size), i.size, decide (i.bytes ≤ 1000))) = some (some 3, 3, true) := by kernel_rfl
  obtain ⟨i, hi, h2⟩ := Option.map_eq_some_iff.1 h
  simp only [Prod.mk.injEq, Option.map_eq_some_iff, decide_eq_true_eq] at h2
  obtain ⟨⟨z, hz, hz3⟩, hs, hb⟩ := h2
  exact ⟨i, hi, z, hz, hs, _, rfl, hz3, hb⟩
set_option maxRecDepth 100000 in
set_option maxHeartbeats 1000000 in
theorem sless_calls (X : List Tr) (g n cap k : Nat) (w : World) (hX : Row w g 133 (tcells X)) (hn : X.length = n) (hn2 : n ≤ 1000) (hnc : n ≤ cap) (hk : k < n) :
    Calls Tryd.prog 148 #[.slice (some ⟨g, 0, none⟩) n cap, .int .i64 (k : Int)] w fun e w' => ∃ v, e = .returned v ∧ Own w.heap.size w' 133 3 v (n - 1) (tcells (X.eraseIdx k)) ∧ On w w' := by
  have HN := Lib.hid hn
  clear hn
  have hk1 : (k : Int) < n := by omega
  have hk2 : (k : Int) + 1 ≤ n := by omega
  have hk3 : (k : Int) ≤ cap := by omega
  have hk4 : (k : Int) ≤ n := by omega
  have hk5 : (n : Int) ≤ cap := by omega
  have ek : IntKind.i64.wrap ((k : Int) + 1) = (k : Int) + 1 := by rw [IntKind.wrap_i64]; omega
  have hk6 : (0 : Int) ≤ (k : Int) + 1 := by omega
  obtain ⟨i3, hi3, z3, hz3, hs3, bytes3, hb3, hzs3, hb100⟩ : ∃ i, Tryd.prog.info? 133 = some i ∧ ∃ z, i.zero = some z ∧ i.size = 3 ∧ ∃ b, i.bytes = b ∧ z.cells.size = 3 ∧ b ≤ 1000 := tree_info
  have HNEW1 := Lib.hid (show ∀ W, On w W → ∀ j u, ((tcells X).take (3 * k))[j]? = some u → W.cell? ((⟨g, 0, none⟩ : Addr).add j) = some u from fun W O j u hu => by
    have ha : (⟨g, 0, none⟩ : Addr).add j = ⟨g, j, none⟩ := by unfold Addr.add; split <;> simp_all
    rw [ha]
    refine (hX.on O).cell ?_
    rw [List.getElem?_take] at hu
    split at hu
    · exact hu
    · cases hu)
  have HX := Lib.hid hX
  have HBY := Lib.hid (show ∀ q, q ≤ 1000 → q * bytes3 ≤ 1000000 from fun q hq => Nat.mul_le_mul hq hb100)
  clear hX
  by_cases hck : cap = k + 1
  · subst hck
    have hkk : (k : Int) ≤ (k : Int) + 1 := by omega
    have hn1 : n = k + 1 := by omega
    have hnk : (n : Int) ≤ (k : Int) + 1 := by omega
    have HN1 := Lib.hid hn1
    clear hn1
    have HNEW2 := Lib.hid (show ∀ W, On w W → ∀ j u, ((tcells X).drop (3 * (k + 1)))[j]? = some u → W.cell? ((⟨g, 0, none⟩ : Addr).add j) = some u from fun W O j u hu => by
      rw [List.drop_eq_nil_of_le (by rw [tcells_length, HN.out]; have := HN1.out; omega)] at hu
      simp at hu)
    go_enter Tryd.func148, Tryd.ntmps148
    go_wp2_with fail
    refine wp_region_held_drew (S := fun W => Kp [] w W) (by kernel_rfl) (Kp.refl _ _).drew (fun hHeld => ?_)
    have OwD := (On.refl w).drew
    refine wpAnyH_take (i := 1) (oi := _) (v := ?_) rfl (by kernel_rfl) (by kernel_rfl) (by kernel_rfl) (fun _ _ _ h => h) (Or.inl ⟨by rfl, ?_⟩) (by assumption) ?_
    rotate_left
    · intro w hSw
      go_simp
      first | done | with_reducible rfl
    try simp only [Act.put, List.setIfInBounds_toArray, List.set_cons_zero, List.set_cons_succ]
    refine wpAnyH_take (i := 2) (oi := _) (v := ?_) rfl (by kernel_rfl) (by kernel_rfl) (by kernel_rfl) (fun _ _ _ h => h) (Or.inl ⟨by rfl, ?_⟩) (by assumption) ?_
    rotate_left
    · intro w hSw
      go_simp
      first | done | with_reducible rfl
    try simp only [Act.put, List.setIfInBounds_toArray, List.set_cons_zero, List.set_cons_succ]
    refine wpAnyH_take (i := 3) (oi := _) (v := ?_) rfl (by kernel_rfl) (by kernel_rfl) (by kernel_rfl) (fun _ _ _ h => h) (Or.inl ⟨by rfl, ?_⟩) (by assumption) ?_
    rotate_left
    · intro w hSw
      go_simp
      first | done | with_reducible rfl
    try simp only [Act.put, List.setIfInBounds_toArray, List.set_cons_zero, List.set_cons_succ]
    refine wpAnyH_take (i := 5) (oi := _) (v := ?_) rfl (by kernel_rfl) (by kernel_rfl) (by kernel_rfl) (fun _ _ _ h => h) (Or.inl ⟨by rfl, ?_⟩) (by assumption) ?_
    rotate_left
    · intro w hSw
      go_simp
      first | done | with_reducible rfl
    try simp only [Act.put, List.setIfInBounds_toArray, List.set_cons_zero, List.set_cons_succ]
    refine wpAnyH_take (i := 6) (oi := _) (v := ?_) rfl (by kernel_rfl) (by kernel_rfl) (by kernel_rfl) (fun _ _ _ h => h) (Or.inl ⟨by rfl, ?_⟩) (by assumption) ?_
    rotate_left
    · intro w hSw
      go_simp
      first | done | with_reducible rfl
    try simp only [Act.put, List.setIfInBounds_toArray, List.set_cons_zero, List.set_cons_succ]
    refine wpAnyH_take (i := 7) (oi := _) (v := ?_) rfl (by kernel_rfl) (by kernel_rfl) (by kernel_rfl) (fun _ _ _ h => h) (Or.inl ⟨by rfl, ?_⟩) (by assumption) ?_
    rotate_left
    · intro w hSw
      go_simp
      first | done | with_reducible rfl
    try simp only [Act.put, List.setIfInBounds_toArray, List.set_cons_zero, List.set_cons_succ]
    refine wpAnyH_take (i := 8) (oi := _) (v := ?_) rfl (by kernel_rfl) (by kernel_rfl) (by kernel_rfl) (fun _ _ _ h => h) (Or.inl ⟨by rfl, ?_⟩) (by assumption) ?_
    rotate_left
    · intro w hSw
      go_simp
      first | done | with_reducible rfl
    try simp only [Act.put, List.setIfInBounds_toArray, List.set_cons_zero, List.set_cons_succ]
    refine wpAnyH_strong (S' := fun W => Kp [] w.drew W) (fun W h => Kp.then (Kp.of [] OwD) h) ?_
    have hHeldN : (fun W => Kp [] w.drew W) w.drew := Kp.refl _ _
    generalize w.drew = wD at *
    refine wpAnyH_ready (rs := [0]) (by kernel_rfl) (by simp) ?_
    refine AllReadyH.cons (o := _) rfl (fun K hK => ?_) AllReadyH.nil
    go_simp
    have OA := (On.refl wD).alloc (.cells #[] 133)
    have NA := Own.new (base := w.heap.size) wD 133 3 #[] 0 (Nat.zero_le _) rfl OwD.size
    have OwA := OwD.call OA
    have hzD := OwD.size
    refine hK.out _ _ (Kp.of [] OA) (fun hHeld => ?_)
    clear hK K
    try simp only [Act.put, List.setIfInBounds_toArray, List.set_cons_zero, List.set_cons_succ]
    generalize hA : wD.heap.size = A at *
    generalize wD.alloc (.cells #[] 133) = wA at *
    refine wpAnyH_ready (rs := [4]) (by kernel_rfl) (by simp) ?_
    refine AllReadyH.cons (o := _) rfl (fun K hK => ?_) AllReadyH.nil
    refine step_append_any rfl _ _ 131 rfl w.heap.size 133 i3 z3 3 bytes3 Tryd.underlying131 hi3 hz3 hs3 hb3 hzs3 (by omega) (.slice (some ⟨A, 0, none⟩) 0 0) 0 [] rfl NA.own ⟨g, 0, none⟩ k (k + 1) ((tcells X).take (3 * k)) rfl (by rw [List.length_take, tcells_length, HN.out]; omega) (fun j u hu => HNEW1.out wA OwA j u hu) (fun u hu => tcells_one _ (List.mem_of_mem_take hu)) (by unfold maxLen; omega) (by have := HBY.out (0 + k) (by omega); omega) OwA.size ?_
    intro v1 w1 hown1 hgr1 hnil1 hob1
    have HOB : (Value.slice (some ⟨A, 0, none⟩) 0 0).ownBlock = some A := rfl
    have hv1 : ∀ y, v1.ownBlock = some y → wD.heap.size ≤ y := fun y hy => by
      rcases hob1 with e | e
      · rw [e, HOB] at hy; cases hy; omega
      · rw [e] at hy; cases hy; exact OA.size
    have Ow1 : On w w1 := OwA.grown hgr1 (fun y hy => by rw [HOB] at hy; cases hy; omega)
    have O1 : On wD w1 := OA.grown hgr1 (fun y hy => by rw [HOB] at hy; cases hy; omega)
    have hnn1 : v1 ≠ .slice none 0 0 := fun e => by cases (hnil1.1 e).1
    show K (Act.put _ (some 9) v1) w1
    refine hK.out _ _ (Kp.of [] O1) (fun hHeld => ?_)
    clear hK K
    try simp only [Act.put, List.setIfInBounds_toArray, List.set_cons_zero, List.set_cons_succ]
    refine wpAnyH_ready (rs := [9]) (by kernel_rfl) (by simp) ?_
    refine AllReadyH.cons (o := _) rfl (fun K hK => ?_) AllReadyH.nil
    refine step_append_any rfl _ _ 131 rfl w.heap.size 133 i3 z3 3 bytes3 Tryd.underlying131 hi3 hz3 hs3 hb3 hzs3 (by omega) v1 (0 + k) _ rfl hown1 ⟨g, 0, none⟩ 0 0 ((tcells X).drop (3 * (k + 1))) rfl (by rw [List.length_drop, tcells_length, HN.out]; have := HN1.out; omega) (fun j u hu => HNEW2.out w1 Ow1 j u hu) (fun u hu => tcells_one _ (List.mem_of_mem_drop hu)) (by unfold maxLen; omega) (by have := HBY.out (0 + k + 0) (by omega); omega) Ow1.size ?_
    intro v2 w2 hown2 hgr2 hnil2 hob2
    have Ow2 : On w w2 := Ow1.grown hgr2 (fun y hy => by have := hv1 y hy; omega)
    have O2 : On wD w2 := O1.grown hgr2 hv1
    show K (Act.put _ (some 14) v2) w2
    refine hK.out _ _ (Kp.of [] O2) (fun hHeld => ?_)
    clear hK K
    try simp only [Act.put, List.setIfInBounds_toArray, List.set_cons_zero, List.set_cons_succ]
    refine wpAnyH_take (i := 10) (oi := _) (v := ?_) rfl (by kernel_rfl) (by kernel_rfl) (by kernel_rfl) (fun _ _ _ h => h) (Or.inl ⟨by rfl, ?_⟩) (by assumption) ?_
    rotate_left
    · intro w hSw
      go_simp
      first | done | with_reducible rfl
    try simp only [Act.put, List.setIfInBounds_toArray, List.set_cons_zero, List.set_cons_succ]
    refine wpAnyH_done (by kernel_rfl) ?_ _
    go_wp2_with fail
    go_ret
    refine ⟨v2, rfl, ⟨?_, fun e => hnn1 (hnil2.1 e).1⟩, Ow2⟩
    rw [tcells_erase, show n - 1 = 0 + k + 0 from by have := HN1.out; omega]
    exact hown2
  · have HNEW2 := Lib.hid (show ∀ W, On w W → ∀ j u, ((tcells X).drop (3 * (k + 1)))[j]? = some u → W.cell? ((⟨g, (k + 1) * 3, none⟩ : Addr).add j) = some u from fun W O j u hu => by
      have ha : (⟨g, (k + 1) * 3, none⟩ : Addr).add j = ⟨g, (k + 1) * 3 + j, none⟩ := by unfold Addr.add; split <;> simp_all
      rw [ha]
      refine (HX.out.on O).cell ?_
      rw [List.getElem?_drop] at hu
      rw [Nat.mul_comm (k + 1) 3]; exact hu)
    go_enter Tryd.func148, Tryd.ntmps148
    go_wp2_with fail
    refine wp_region_held_drew (S := fun W => Kp [] w W) (by kernel_rfl) (Kp.refl _ _).drew (fun hHeld => ?_)
    have OwD := (On.refl w).drew
    refine wpAnyH_take (i := 1) (oi := _) (v := ?_) rfl (by kernel_rfl) (by kernel_rfl) (by kernel_rfl) (fun _ _ _ h => h) (Or.inl ⟨by rfl, ?_⟩) (by assumption) ?_
    rotate_left
    · intro w hSw
      go_simp
      first | done | with_reducible rfl
    try simp only [Act.put, List.setIfInBounds_toArray, List.set_cons_zero, List.set_cons_succ]
    refine wpAnyH_take (i := 2) (oi := _) (v := ?_) rfl (by kernel_rfl) (by kernel_rfl) (by kernel_rfl) (fun _ _ _ h => h) (Or.inl ⟨by rfl, ?_⟩) (by assumption) ?_
    rotate_left
    · intro w hSw
      go_simp
      first | done | with_reducible rfl
    try simp only [Act.put, List.setIfInBounds_toArray, List.set_cons_zero, List.set_cons_succ]
    refine wpAnyH_take (i := 3) (oi := _) (v := ?_) rfl (by kernel_rfl) (by kernel_rfl) (by kernel_rfl) (fun _ _ _ h => h) (Or.inl ⟨by rfl, ?_⟩) (by assumption) ?_
    rotate_left
    · intro w hSw
      go_simp
      first | done | with_reducible rfl
    try simp only [Act.put, List.setIfInBounds_toArray, List.set_cons_zero, List.set_cons_succ]
    refine wpAnyH_take (i := 5) (oi := _) (v := ?_) rfl (by kernel_rfl) (by kernel_rfl) (by kernel_rfl) (fun _ _ _ h => h) (Or.inl ⟨by rfl, ?_⟩) (by assumption) ?_
    rotate_left
    · intro w hSw
      go_simp
      first | done | with_reducible rfl
    try simp only [Act.put, List.setIfInBounds_toArray, List.set_cons_zero, List.set_cons_succ]
    refine wpAnyH_take (i := 6) (oi := _) (v := ?_) rfl (by kernel_rfl) (by kernel_rfl) (by kernel_rfl) (fun _ _ _ h => h) (Or.inl ⟨by rfl, ?_⟩) (by assumption) ?_
    rotate_left
    · intro w hSw
      go_simp
      first | done | with_reducible rfl
    try simp only [Act.put, List.setIfInBounds_toArray, List.set_cons_zero, List.set_cons_succ]
    refine wpAnyH_take (i := 7) (oi := _) (v := ?_) rfl (by kernel_rfl) (by kernel_rfl) (by kernel_rfl) (fun _ _ _ h => h) (Or.inl ⟨by rfl, ?_⟩) (by assumption) ?_
    rotate_left
    · intro w hSw
      go_simp
      first | done | with_reducible rfl
    try simp only [Act.put, List.setIfInBounds_toArray, List.set_cons_zero, List.set_cons_succ]
    refine wpAnyH_take (i := 8) (oi := _) (v := ?_) rfl (by kernel_rfl) (by kernel_rfl) (by kernel_rfl) (fun _ _ _ h => h) (Or.inl ⟨by rfl, ?_⟩) (by assumption) ?_
    rotate_left
    · intro w hSw
      go_simp
      first | done | with_reducible rfl
    try simp only [Act.put, List.setIfInBounds_toArray, List.set_cons_zero, List.set_cons_succ]
    refine wpAnyH_strong (S' := fun W => Kp [] w.drew W) (fun W h => Kp.then (Kp.of [] OwD) h) ?_
    have hHeldN : (fun W => Kp [] w.drew W) w.drew := Kp.refl _ _
    generalize w.drew = wD at *
    refine wpAnyH_ready (rs := [0]) (by kernel_rfl) (by simp) ?_
    refine AllReadyH.cons (o := _) rfl (fun K hK => ?_) AllReadyH.nil
    go_simp
    have OA := (On.refl wD).alloc (.cells #[] 133)
    have NA := Own.new (base := w.heap.size) wD 133 3 #[] 0 (Nat.zero_le _) rfl OwD.size
    have OwA := OwD.call OA
    have hzD := OwD.size
    refine hK.out _ _ (Kp.of [] OA) (fun hHeld => ?_)
    clear hK K
    try simp only [Act.put, List.setIfInBounds_toArray, List.set_cons_zero, List.set_cons_succ]
    generalize hA : wD.heap.size = A at *
    generalize wD.alloc (.cells #[] 133) = wA at *
    refine wpAnyH_ready (rs := [4]) (by kernel_rfl) (by simp) ?_
    refine AllReadyH.cons (o := _) rfl (fun K hK => ?_) AllReadyH.nil
    refine step_append_any rfl _ _ 131 rfl w.heap.size 133 i3 z3 3 bytes3 Tryd.underlying131 hi3 hz3 hs3 hb3 hzs3 (by omega) (.slice (some ⟨A, 0, none⟩) 0 0) 0 [] rfl NA.own ⟨g, 0, none⟩ k cap ((tcells X).take (3 * k)) rfl (by rw [List.length_take, tcells_length, HN.out]; omega) (fun j u hu => HNEW1.out wA OwA j u hu) (fun u hu => tcells_one _ (List.mem_of_mem_take hu)) (by unfold maxLen; omega) (by have := HBY.out (0 + k) (by omega); omega) OwA.size ?_
    intro v1 w1 hown1 hgr1 hnil1 hob1
    have HOB : (Value.slice (some ⟨A, 0, none⟩) 0 0).ownBlock = some A := rfl
    have hv1 : ∀ y, v1.ownBlock = some y → wD.heap.size ≤ y := fun y hy => by
      rcases hob1 with e | e
      · rw [e, HOB] at hy; cases hy; omega
      · rw [e] at hy; cases hy; exact OA.size
    have Ow1 : On w w1 := OwA.grown hgr1 (fun y hy => by rw [HOB] at hy; cases hy; omega)
    have O1 : On wD w1 := OA.grown hgr1 (fun y hy => by rw [HOB] at hy; cases hy; omega)
    have hnn1 : v1 ≠ .slice none 0 0 := fun e => by cases (hnil1.1 e).1
    show K (Act.put _ (some 9) v1) w1
    refine hK.out _ _ (Kp.of [] O1) (fun hHeld => ?_)
    clear hK K
    try simp only [Act.put, List.setIfInBounds_toArray, List.set_cons_zero, List.set_cons_succ]
    refine wpAnyH_ready (rs := [9]) (by kernel_rfl) (by simp) ?_
    refine AllReadyH.cons (o := _) rfl (fun K hK => ?_) AllReadyH.nil
    refine step_append_any rfl _ _ 131 rfl w.heap.size 133 i3 z3 3 bytes3 Tryd.underlying131 hi3 hz3 hs3 hb3 hzs3 (by omega) v1 (0 + k) _ rfl hown1 ⟨g, (k + 1) * 3, none⟩ (n - (k + 1)) (cap - (k + 1)) ((tcells X).drop (3 * (k + 1))) rfl (by rw [List.length_drop, tcells_length, HN.out]; omega) (fun j u hu => HNEW2.out w1 Ow1 j u hu) (fun u hu => tcells_one _ (List.mem_of_mem_drop hu)) (by unfold maxLen; omega) (by have := HBY.out (0 + k + (n - (k + 1))) (by omega); omega) Ow1.size ?_
    intro v2 w2 hown2 hgr2 hnil2 hob2
    have Ow2 : On w w2 := Ow1.grown hgr2 (fun y hy => by have := hv1 y hy; omega)
    have O2 : On wD w2 := O1.grown hgr2 hv1
    show K (Act.put _ (some 14) v2) w2
    refine hK.out _ _ (Kp.of [] O2) (fun hHeld => ?_)
    clear hK K
    try simp only [Act.put, List.setIfInBounds_toArray, List.set_cons_zero, List.set_cons_succ]
    refine wpAnyH_take (i := 10) (oi := _) (v := ?_) rfl (by kernel_rfl) (by kernel_rfl) (by kernel_rfl) (fun _ _ _ h => h) (Or.inl ⟨by rfl, ?_⟩) (by assumption) ?_
    rotate_left
    · intro w hSw
      go_simp
      first | done | with_reducible rfl
    try simp only [Act.put, List.setIfInBounds_toArray, List.set_cons_zero, List.set_cons_succ]
    refine wpAnyH_done (by kernel_rfl) ?_ _
    go_wp2_with fail
    go_ret
    refine ⟨v2, rfl, ⟨?_, fun e => hnn1 (hnil2.1 e).1⟩, Ow2⟩
    rw [tcells_erase, show n - 1 = 0 + k + (n - (k + 1)) from by omega]
    exact hown2
end Go.Proofs.YtncidljdfipigaaDoor.Wi

