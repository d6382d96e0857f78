/- Tokens of a text, in the reference: the plain ones. Conditions: sizes. -/
import Derived.Test.YtncidljdfipigaaDoorWTok
namespace Go.Proofs.YtncidljdfipigaaDoor.Wi
open Go.RowKit Go.Proofs.YtncidljdfipigaaDoor.Mem Go.Proofs.YtncidljdfipigaaDoor.Lz
set_option linter.unusedVariables false
set_option linter.unusedSimpArgs false
theorem at_all (s : ByteArray) : ∀ i (h : i < s.size), (chars s)[i]? = some s[i].toNat := fun i h => by
  have := chars_at s h
  rw [List.getD_eq_getElem?_getD, List.getElem?_eq_getElem (by rw [chars_length]; exact h)] at this
  rw [List.getElem?_eq_getElem (by rw [chars_length]; exact h)]
  exact congrArg some this
set_option maxRecDepth 100000 in
set_option maxHeartbeats 1000000 in
theorem again_calls (s : ByteArray) (hs : s.size ≤ 300) (a k : Nat) (hk : 1 ≤ k) (hka : k ≤ a) (ha : a < s.size) (w : World) : Calls Tryd.prog 120 #[.string s, .int .i64 a, .int .i64 k] w (Tells w (.int .i64 (mlen (chars s) a k : Nat))) := by
  have htl : (chars s).length = s.size := chars_length s
  have hat := at_all s
  generalize chars s = t at *
  have HTL := Lib.hid htl
  have HAT := Lib.hid hat
  clear htl hat
  go_enter Tryd.func120, Tryd.ntmps120
  go_wp2_with fail
  go_loopw [7] (fun x wr => ∃ n : Nat, x = .int .i64 (n : Int) ∧ n ≤ 60 ∧ RowKit.Hid (n + run t (a + n) (a + n - k) (60 - n) = mlen t a k) ∧ On w wr) (fun x _ => 60 - (intOf x).toNat)
  case atStart => exact ⟨0, rfl, by omega, Lib.hid (by simp [mlen]), On.refl _⟩
  case round =>
    obtain ⟨n, rfl, hn, hrun, O3⟩ := hrel
    have q1 : IntKind.i64.wrap ((a : Int) + (n : Int)) = ((a + n : Nat) : Int) := by rw [IntKind.wrap_i64]; omega
    have q2 : IntKind.i64.wrap (((a + n : Nat) : Int) - (k : Int)) = ((a + n - k : Nat) : Int) := by rw [IntKind.wrap_i64]; omega
    have hq : a + n - k < a + n := by omega
    have hq2 : a + n ≤ 400 := by omega
    have hcont : n < 60 ∧ a + n < t.length ∧ t[a + n]? = t[a + n - k]? ∨ ¬ (n < 60 ∧ a + n < t.length ∧ t[a + n]? = t[a + n - k]?) := Classical.em _
    have hgo := run_step hrun.out hk hka
    have hend := run_stop hrun.out
    generalize hp : a + n = p at hcont hend q1 q2 hq hq2
    generalize hpq : p - k = q at hcont hend q2 hq
    rw [hp, hpq] at hgo
    have HP := Lib.hid hp
    have HPQ := Lib.hid hpq
    have HGO := Lib.hid hgo
    have HEND := Lib.hid hend
    clear hp hpq hgo hend hrun
    rcases hcont with hc | hc
    · have hx2 := Lib.hid (HGO.out hc)
      have hc1 : (n : Int) < 60 := by have := hc.1; omega
      have hps : p < s.size := by have := hc.2.1; rw [HTL.out] at this; exact this
      have hqs : q < s.size := by omega
      have hxy : s[p] = s[q] := by
        have := hc.2.2
        rw [HAT.out p hps, HAT.out q hqs] at this
        exact UInt8.toNat_inj.1 (Option.some.inj this)
      have hps' : (p : Int) < s.size := by omega
      have hqs' : (q : Int) < s.size := by omega
      have hb : (((s[p]).toNat : Int) == ((s[q]).toNat : Int)) = true := by rw [hxy]; simp
      clear hc hxy
      generalize hx : s[p] = x at *
      generalize hy : s[q] = y at *
      go_wp2_with fail
      go_quiet (fail)
      go_wp2_with fail
      exact ⟨⟨n + 1, by go_num, by omega, hx2, O3.drewN _⟩, by simp [intOf]; omega⟩
    · have hx2 := HEND.out hc
      have hstop : decide (p < s.size) = false ∨ (decide (p < s.size) = true ∧ decide ((n : Int) < 60) = false) ∨
          (decide ((n : Int) < 60) = true ∧ decide (p < s.size) = true ∧ decide (q < s.size) = true ∧ ∃ (hp : p < s.size) (hq : q < s.size), (((s[p]).toNat : Int) == ((s[q]).toNat : Int)) = false) := by
        by_cases h2 : p < s.size
        · by_cases h1 : n < 60
          · refine .inr (.inr ⟨by simp; omega, by simp; omega, by simp; omega, h2, by omega, ?_⟩)
            rw [beq_eq_false_iff_ne]
            intro e
            apply hc
            refine ⟨h1, by rw [HTL.out]; exact h2, ?_⟩
            rw [HAT.out p h2, HAT.out q (by omega)]
            congr 1; omega
          · exact .inr (.inl ⟨by simp; omega, by simp; omega⟩)
        · exact .inl (by simp; omega)
      have HX2 := Lib.hid hx2
      clear hc hx2
      rcases hstop with h | ⟨h1, h2⟩ | ⟨h1, h2, h3, hp, hq, h4⟩
      · go_wp2_with fail
        go_quiet (fail)
        go_wp2_with fail
        go_ret
        exact ⟨by rw [← HX2.out]; rfl, O3.drewN _⟩
      · go_wp2_with fail
        go_quiet (fail)
        go_wp2_with fail
        go_ret
        exact ⟨by rw [← HX2.out]; rfl, O3.drewN _⟩
      · generalize hx : s[p] = x at *
        generalize hy : s[q] = y at *
        go_wp2_with fail
        go_quiet (fail)
        go_wp2_with fail
        go_ret
        exact ⟨by rw [← HX2.out]; rfl, O3.drewN _⟩
theorem best_step (t : List Nat) (a j : Nat) : best t a (j + 1) = if (best t a j).1 < mlen t a (j + 1) then (mlen t a (j + 1), j + 1) else best t a j := rfl
set_option maxRecDepth 100000 in
set_option maxHeartbeats 2000000 in
theorem stoks_calls (s : ByteArray) (hs : s.size ≤ 300) (w : World) : Calls Tryd.prog 90 #[.string s] w (GivesT w (tokens (chars s))) := by
  have htl : (chars s).length = s.size := chars_length s
  have hat := at_all s
  have h0 : tokens (chars s) = [] ++ toks (chars s) ((chars s).length - 0) 0 := rfl
  have hag := fun a k h1 h2 h3 w => again_calls s hs a k h1 h2 h3 w
  generalize chars s = t at *
  have HTL := Lib.hid htl
  have HAT := Lib.hid hat
  have H0 := Lib.hid h0
  have HAG := Lib.hid hag
  clear htl hat h0 hag
  go_enter Tryd.func90, Tryd.ntmps90
  go_wp2_with fail
  go_loopw [3, 4] (fun v x wr => ∃ (a : Nat) (done : List Tok), x = .int .i64 (a : Int) ∧ a ≤ s.size ∧ done.length ≤ a ∧ RowKit.Hid (tokens t = done ++ toks t (t.length - a) a) ∧ Own w.heap.size wr 67 3 v done.length (tokCells done) ∧ On w wr) (fun _ x _ => s.size - (intOf x).toNat)
  case atStart => exact ⟨0, [], rfl, by omega, by simp, H0, Own.new w 67 3 #[] 0 (Nat.zero_le _) rfl (Nat.le_refl _), (On.refl w).alloc _⟩
  case round =>
    obtain ⟨a, done, rfl, ha, hd, hT, hown, O⟩ := hrel
    by_cases hlt : a < s.size
    · obtain ⟨wo, hwo⟩ : ∃ wo : World, wo = wr := ⟨_, rfl⟩
      subst hwo
      have hts := toks_step t a (by rw [HTL.out]; exact hlt)
      have hhe : held t a (min 250 a) = if 3 ≤ (best t a (min 250 a)).1 then ⟨0, ((best t a (min 250 a)).1 : Nat), ((best t a (min 250 a)).2 : Nat)⟩ else ⟨(t.getD a 0 : Nat), 0, 0⟩ := rfl
      have HTS := Lib.hid hts
      have HHE := Lib.hid hhe
      have hm1 : min 250 a ≤ 250 := by omega
      have hm2 : min 250 a ≤ a := by omega
      have hm3 : min 250 a = 250 ∨ min 250 a = a := by omega
      clear hts hhe
      generalize min 250 a = m at *
      go_wp2_with fail
      go_loopw [5, 6, 7] (fun l f x wr => ∃ j : Nat, x = .int .i64 ((j : Int) + 1) ∧ j ≤ m ∧ l = .int .i64 ((best t a j).1 : Nat) ∧ f = .int .i64 ((best t a j).2 : Nat) ∧ On wo wr) (fun _ _ x _ => 251 - (intOf x).toNat)
      case atStart => exact ⟨0, rfl, by omega, rfl, rfl, On.refl _⟩
      case round =>
        obtain ⟨j, rfl, hj, rfl, rfl, O2⟩ := hrel
        have hle := best_le_60 t a j
        by_cases hjl : j < m
        · have hj1 : (j : Int) + 1 ≤ 250 := by omega
          have hj2 : (j : Int) + 1 ≤ a := by omega
          have hst := best_step t a j
          have hml := mlen_le t a (j + 1)
          have hc := HAG.out a (j + 1) (by omega) (by omega) hlt
          have HC := Lib.hid hc
          have HST := Lib.hid hst
          clear hst hc
          generalize best t a j = bj at *
          obtain ⟨L, F⟩ := bj
          simp only at hle HST
          generalize mlen t a (j + 1) = M at *
          go_wp2_with fail
          have hc2 := HC.out wr
          rw [show (((j + 1 : Nat) : Int)) = (j : Int) + 1 from by omega] at hc2
          refine hc2.mono ?_
          rintro e w3 ⟨rfl, O3⟩
          by_cases hLM : L < M
          · have hLM' : (L : Int) < M := by omega
            go_wp2_with fail
            refine ⟨⟨j + 1, by go_num, by omega, ?_, ?_, O2.call O3⟩, by simp [intOf]; omega⟩
            · rw [HST.out, if_pos hLM]
            · rw [HST.out, if_pos hLM]; go_num
          · have hLM' : ¬ (L : Int) < M := by omega
            go_wp2_with fail
            refine ⟨⟨j + 1, by go_num, by omega, ?_, ?_, O2.call O3⟩, by simp [intOf]; omega⟩
            · rw [HST.out, if_neg hLM]
            · rw [HST.out, if_neg hLM]
        · obtain rfl : j = m := by omega
          have hstop : decide ((j : Int) + 1 ≤ 250) = false ∨ (decide ((j : Int) + 1 ≤ 250) = true ∧ decide ((j : Int) + 1 ≤ (a : Int)) = false) := by
            by_cases h : (j : Int) + 1 ≤ 250
            · exact .inr ⟨by simpa using h, by simp; omega⟩
            · exact .inl (by simpa using h)
          have hown2 := hown.on O2
          have O4 := O.call O2
          obtain ⟨i0, hi, hz0, hz1, hz2⟩ := info_parts tokinfo
          have hdl : done.length ≤ 300 := by omega
          have hHT := HTS.out
          rw [HHE.out] at hHT
          have HHT := Lib.hid hHT
          clear hHT hown
          generalize best t a j = bj at *
          obtain ⟨L, F⟩ := bj
          simp only at hle HHT
          obtain ⟨b, hbb⟩ : ∃ b, s[a] = b := ⟨_, rfl⟩
          have hbt : t.getD a 0 = b.toNat := by rw [List.getD_eq_getElem?_getD, HAT.out a hlt, hbb]; rfl
          have HBT := Lib.hid hbt
          have hb256 : (b.toNat : Int) < 256 := by have := b.toNat_lt; omega
          clear hbt
          by_cases h3 : 3 ≤ L
          · have h3' : ¬ (L : Int) < 3 := by omega
            have hHT := HHT.out
            rw [if_pos h3] at hHT
            simp only [Int.toNat_natCast] at hHT
            rw [show max L 1 = L from by omega] at hHT
            have HHT2 := Lib.hid hHT
            clear HHT hHT
            rcases hstop with h | ⟨h, h'⟩
            all_goals
              go_wp2_with (at_builtin; go_must (refine wpList_app rfl _ _ 64 rfl w i0 (.agg #[.int .i64 0, .int .i64 0, .int .i64 0]) 24 3 Tryd.underlying64 hi hz0 hz1 hz2 rfl (by decide) rfl _ _ _ rfl hown2 O4 rfl (by simp [Value.oneCell']) (by unfold maxLen; omega) (by omega) ?_); intro v' w2 hown' O' hk)
              go_roundw
              case rel =>
                obtain ⟨e1, e2⟩ := HHT2.out
                refine ⟨a + L, done ++ [⟨0, (L : Int), (F : Int)⟩], by go_num, by rw [HTL.out] at e2; exact e2, by rw [List.length_append, List.length_singleton]; omega, Lib.hid (by rw [hT.out, e1, List.append_assoc]; rfl), ?_, O'⟩
                rw [List.length_append, List.length_singleton, tokCells_snoc]
                exact hown'
              case measure => simp [intOf]; omega
          · have h3' : (L : Int) < 3 := by omega
            have hHT := HHT.out
            rw [if_neg h3] at hHT
            simp only at hHT
            rw [show max (Int.toNat 0) 1 = 1 from rfl, HBT.out] at hHT
            have HHT2 := Lib.hid hHT
            clear HHT hHT
            rcases hstop with h | ⟨h, h'⟩
            all_goals
              go_wp2_with (at_builtin; go_must (refine wpList_app rfl _ _ 64 rfl w i0 (.agg #[.int .i64 0, .int .i64 0, .int .i64 0]) 24 3 Tryd.underlying64 hi hz0 hz1 hz2 rfl (by decide) rfl _ _ _ rfl hown2 O4 rfl (by simp [Value.oneCell']) (by unfold maxLen; omega) (by omega) ?_); intro v' w2 hown' O' hk)
              go_roundw
              case rel =>
                obtain ⟨e1, e2⟩ := HHT2.out
                refine ⟨a + 1, done ++ [⟨(b.toNat : Int), 0, 0⟩], by go_num, by rw [HTL.out] at e2; exact e2, by rw [List.length_append, List.length_singleton]; omega, Lib.hid (by rw [hT.out, e1, List.append_assoc]; rfl), ?_, O'⟩
                rw [List.length_append, List.length_singleton, tokCells_snoc]
                exact hown'
              case measure => simp [intOf]; omega
    · obtain rfl : a = s.size := by omega
      have hT2 := hT.out
      rw [toks_end t _ (by rw [HTL.out]; exact Nat.le_refl _), List.append_nil] at hT2
      have HT2 := Lib.hid hT2
      obtain ⟨g, cap, rfl, hg, R, hn1, hcap, hlen⟩ := hown.parts
      clear hT2
      go_wp2_with fail
      go_ret
      refine ⟨g, cap, ?_, ?_, ?_, hcap, hg, O⟩
      · rw [HT2.out]; rfl
      · rw [HT2.out]; exact R
      · rw [HT2.out]; exact hn1
end Go.Proofs.YtncidljdfipigaaDoor.Wi
