/- The draws of texts: some text, not a long one. -/
import Derived.Test.YtpbfhflggicpiaaDoorDraw
import Derived.Test.YtpbfhflggicpiaaDoorByt
namespace Go.Proofs.YtpbfhflggicpiaaDoor.Draw
open Go.RowKit Go.Proofs.YtpbfhflggicpiaaDoor.Mem Go.Proofs.YtpbfhflggicpiaaDoor.Wi
set_option linter.unusedVariables false
set_option linter.unusedSimpArgs false
theorem tmod_nat (a b : Nat) : Int.tmod (a : Int) (b : Int) = ((a % b : Nat) : Int) := by rw [Int.tmod_eq_emod_of_nonneg (by omega)]; simp
theorem tdiv_nat (a b : Nat) : Int.tdiv (a : Int) (b : Int) = ((a / b : Nat) : Int) := by rw [Int.tdiv_eq_ediv_of_nonneg (by omega)]; simp
theorem wr_u8 (n : Int) (h₀ : 0 ≤ n) (h₁ : n < 2 ^ 8) : IntKind.u8.wrap n = n := by
  have e : IntKind.u8.wrap n = n % 256 := rfl
  rw [e]; omega
theorem By.new (w : World) : By (w.alloc (.cells #[] 5)) w.heap.size 0 [] := by
  refine ⟨⟨?_, fun g hg => by simp [Value.ownBlock] at hg; exact hg.symm⟩⟩
  exact World.ownsRow_lit w (base := 0) (e := 5) (size := 1) #[] 0 (Nat.zero_le _) (by unfold maxLen; omega) (by simp)
set_option maxRecDepth 100000 in
theorem many_calls (s : ByteArray) (n : Nat) (w : World) (hs : s.size ≤ 1000) (hn : n ≤ 1000) :
    Calls Tryd.prog 55 #[.string s, .int .i64 n] w fun e w' => ∃ o : ByteArray, o.size ≤ n * s.size ∧ e = .returned (.string o) ∧ On w w' := by
  obtain ⟨M, hM⟩ : ∃ M, n * s.size = M := ⟨_, rfl⟩
  have hMb : M ≤ 1000000 := by rw [← hM]; have := Nat.mul_le_mul hn hs; omega
  have HM := Lib.hid hM
  rw [hM]
  clear hM
  go_enter Tryd.func55, Tryd.ntmps55
  go_wp2_with fail
  go_loopw [0, 1, 5] (fun a b c wr => ∃ (t o : ByteArray) (k : Nat), a = .string t ∧ b = .int .i64 (k : Int) ∧ c = .string o ∧ RowKit.Hid (o.size + k * t.size ≤ M ∧ t.size ≤ 4000000) ∧ k ≤ 1000 ∧ On w wr) (fun _ b _ _ => (intOf b).toNat)
  case atStart => exact ⟨s, ⟨#[]⟩, n, rfl, rfl, rfl, Lib.hid ⟨by show 0 + n * s.size ≤ _; rw [HM.out]; omega, by omega⟩, hn, On.refl _⟩
  case round =>
    obtain ⟨t, o, k, rfl, rfl, rfl, HB, hk, O⟩ := hrel
    by_cases h0 : k = 0
    · subst h0
      go_wp2_with fail
      go_ret
      exact ⟨o, by have := HB.out.1; omega, rfl, O⟩
    · have h0' : (0 : Int) < k := by omega
      obtain ⟨hb1, hb2⟩ := HB.out
      have ht : t.size ≤ 1000000 := by have := Nat.le_mul_of_pos_left t.size (show 0 < k by omega); omega
      have ho : o.size ≤ 1000000 := by omega
      have e2 : Int.tmod (k : Int) 2 = ((k % 2 : Nat) : Int) := tmod_nat k 2
      have e3 : Int.tdiv (k : Int) 2 = ((k / 2 : Nat) : Int) := tdiv_nat k 2
      have hq : k * t.size = k / 2 * (t.size + t.size) + k % 2 * t.size := by
        conv => lhs; rw [← Nat.div_add_mod k 2]
        rw [Nat.add_mul, Nat.mul_add, Nat.mul_assoc, Nat.two_mul]
      obtain ⟨q, hqk⟩ : ∃ q, k / 2 = q := ⟨_, rfl⟩
      have hqlt : q < k := by omega
      rw [hqk] at hq e3
      have HQ := Lib.hid hq
      clear hq hb1 hb2 hqk
      have st : (t ++ t).size = t.size + t.size := ByteArray.size_append
      have so : (o ++ t).size = o.size + t.size := ByteArray.size_append
      have ST := Lib.hid st
      have SO := Lib.hid so
      clear st so
      by_cases h1 : k % 2 = 1
      case' pos => rw [h1] at e2
      case' neg =>
        have h10 : k % 2 = 0 := by omega
        rw [h10] at e2
      all_goals
        go_wp2_with fail
        go_roundw
        case rel =>
          first
          | refine ⟨t ++ t, o ++ t, q, rfl, rfl, rfl, Lib.hid ⟨?_, by rw [ST.out]; omega⟩, by omega, O⟩
            have a := HQ.out
            have b := HB.out.1
            rw [h1] at a
            rw [ST.out, SO.out]; omega
          | refine ⟨t ++ t, o, q, rfl, rfl, rfl, Lib.hid ⟨?_, by rw [ST.out]; omega⟩, by omega, O⟩
            have a := HQ.out
            have b := HB.out.1
            rw [ST.out]; omega
        case measure => simp [intOf]; omega
theorem But.kp {g : Nat} {w w' : World} (h : But g w w') : Kp [g] w w' := ⟨h.out.os, h.out.tape, h.out.output, h.out.size, fun i hi hs => h.out.block i hi (fun e => hs (by cases e; simp))⟩
theorem But.ofKp {g : Nat} {w w' : World} (h : Kp [g] w w') : But g w w' := ⟨⟨h.os, h.tape, h.output, h.size, fun i hi hs => h.block i hi (fun e => hs (by simp at e; rw [e]))⟩⟩
theorem Rd.kp {w w' : World} {g B : Nat} {S : List Nat} (h : Rd w g B) (k : Kp S w w') (hs : ∀ y ∈ S, g < y) : Rd w' g B :=
  h.grow h.lt (fun i hi => k.block i (Nat.lt_of_le_of_lt hi h.lt) (fun hm => by have := hs i hm; omega))
set_option maxRecDepth 100000 in
theorem text_calls (g B : Nat) (w : World) (hr : Rd w g B) (hB : B ≤ 100000000) :
    Calls Tryd.prog 53 #[.pointer (some ⟨g, 0, none⟩)] w fun e w' => ∃ s : ByteArray, s.size ≤ 300 ∧ e = .returned (.string s) ∧ Rd w' g (B + 50) ∧ But g w w' := by
  go_enter Tryd.func53, Tryd.ntmps53
  go_wp2_with fail
  refine (pick_calls g B 8 w hr (by omega) (by omega) (by omega)).mono ?_
  rintro e w1 ⟨k, hk, rfl, hr1, T⟩
  by_cases h0 : k = 0
  · subst h0
    go_wp2_with fail
    go_ret
    exact ⟨⟨#[]⟩, by show 0 ≤ _; omega, rfl, hr1.le (by omega), T⟩
  by_cases h1 : k = 1
  · subst h1
    go_wp2_with fail
    refine (of_calls g (B + 1) w1.heap.size 4 4 _ _ (hr1.on ((On.refl w1).alloc _)) (by omega) (Row.of (Blk.new w1 _ _)) rfl (by omega) (by omega) (by omega) (Nat.ne_of_gt hr1.lt)).mono ?_
    rintro e w2 ⟨v, hv, rfl, hr2, T2⟩
    replace T := T.trans ((But.of (g := g) ((On.refl w1).alloc _)).trans T2)
    have hs : ∃ s : ByteArray, s.size ≤ 6 ∧ v = .string s := by
      simp at hv
      rcases hv with rfl | rfl | rfl | rfl <;> exact ⟨_, by decide, rfl⟩
    obtain ⟨s, hs, rfl⟩ := hs
    clear hv
    go_wp2_with fail
    refine (pick_calls g (B + 1 + 1) 40 w2 hr2 (by omega) (by omega) (by omega)).mono ?_
    rintro e w3 ⟨j, hj, rfl, hr3, T3⟩
    have ej : IntKind.i64.wrap (1 + (j : Int)) = ((1 + j : Nat) : Int) := by rw [IntKind.wrap_i64]; omega
    go_wp2_with fail
    refine (many_calls s (1 + j) w3 (by omega) (by omega)).mono ?_
    rintro e w4 ⟨o, ho, rfl, O4⟩
    have ho2 : (1 + j) * s.size ≤ 40 * 6 := Nat.mul_le_mul (by omega) hs
    go_wp2_with fail
    go_ret
    exact ⟨o, by omega, rfl, (hr3.on O4).le (by omega), (T.trans T3).trans (But.of O4)⟩
  by_cases h2 : k = 2
  · subst h2
    go_wp2_with fail
    have O2 := (On.refl w1).alloc (.cells #[] 5)
    have B2 := By.new w1
    have T2 := T.trans (But.of (g := g) O2)
    have hr2 := hr1.on O2
    have hz2 : (w1.alloc (.cells #[] 5)).heap.size = w1.heap.size + 1 := Array.size_push _
    have hgl := hr1.lt
    have hz0 := T.size
    generalize hr0 : w1.heap.size = r at *
    generalize w1.alloc (.cells #[] 5) = w2 at *
    refine (pick_calls g (B + 1) 40 w2 hr2 (by omega) (by omega) (by omega)).mono ?_
    rintro e w3 ⟨n, hn, rfl, hr3, T3⟩
    have B3 := B2.kp T3.kp (by simp; omega)
    replace T3 := T2.trans T3
    go_wp2_with fail
    go_loopw [3, 4] (fun o x wr => ∃ (r' cap : Nat) (l : List Nat) (m : Nat), o = .slice (some ⟨r', 0, none⟩) l.length cap ∧ x = .int .i64 (m : Int) ∧ RowKit.Hid (l.length + m = n) ∧ m ≤ n ∧ By wr r' cap l ∧ Rd wr g (B + 2 + l.length) ∧ But g w wr ∧ w.heap.size ≤ r' ∧ g < r') (fun _ x _ => (intOf x).toNat)
    case atStart => exact ⟨r, 0, [], n, rfl, rfl, Lib.hid (by simp), by omega, B3, hr3, T3, by omega, hgl⟩
    case round =>
      obtain ⟨r', cap, l, m, rfl, rfl, HL, hm, hBy, hrr, TT, hr', hrg⟩ := hrel
      have hlen : l.length ≤ 40 := by have := HL.out; omega
      by_cases m0 : m = 0
      · subst m0
        have cv := bytes_conv hBy.out
        go_wp2_with fail
        go_ret
        exact ⟨strB l, by rw [strB_size]; omega, rfl, hrr.le (by omega), TT⟩
      · have m0' : (0 : Int) < m := by omega
        go_wp2_with fail
        refine (pick_calls g (B + 2 + l.length) 256 wr hrr (by omega) (by omega) (by omega)).mono ?_
        rintro e w4 ⟨x, hx, rfl, hr4, T4⟩
        have hBy4 := (hBy.kp T4.kp (by simp; omega)).out
        have hu8 : IntKind.u8.wrap (x : Int) = (x : Int) := wr_u8 _ (by omega) (by omega)
        go_wp2_with (at_builtin; go_must (refine wpList_byte (x := x) rfl _ _ rfl rfl hBy4 rfl (by omega) ?_); intro r6 cap6 w6 hby6 hr6 hrl6 K6 hc1 hc2)
        go_roundw
        case rel =>
          have hz1 := TT.size
          have hz4 := T4.size
          have hgl4 := hr4.lt
          refine ⟨r6, cap6, l ++ [x], m - 1, by rw [List.length_append]; rfl, by go_num, Lib.hid (by have := HL.out; rw [List.length_append, List.length_singleton]; omega), by omega, ⟨?_⟩, ?_, But.ofKp ((TT.trans T4).kp.trans K6 (fun y hy => by simp at hy ⊢; omega)), by omega, by omega⟩
          · rw [List.length_append]; exact hby6
          · rw [List.length_append]; exact (hr4.kp K6 (by simpa using hrg)).le (by simp; omega)
        case measure => simp [intOf]; omega
  by_cases h3 : k = 3
  · subst h3
    go_wp2_with fail
    refine (many_calls _ 300 w1 (by decide) (by omega)).mono ?_
    rintro e w4 ⟨o, ho, rfl, O4⟩
    go_wp2_with fail
    go_ret
    exact ⟨o, ho, rfl, (hr1.on O4).le (by omega), T.trans (But.of O4)⟩
  · have k0 : ((k : Int) == 0) = false := by simp; omega
    have k1 : ((k : Int) == 1) = false := by simp; omega
    have k2 : ((k : Int) == 2) = false := by simp; omega
    have k3 : ((k : Int) == 3) = false := by simp; omega
    go_wp2_with fail
    refine (pick_calls g (B + 1) 12 w1 hr1 (by omega) (by omega) (by omega)).mono ?_
    rintro e w3 ⟨n, hn, rfl, hr3, T3⟩
    replace T3 := T.trans T3
    go_wp2_with fail
    go_loopw [5, 6] (fun o x wr => ∃ (s : ByteArray) (m : Nat), o = .string s ∧ x = .int .i64 (m : Int) ∧ m ≤ n ∧ s.size ≤ 6 * (n - m) ∧ Rd wr g (B + 2 + (n - m)) ∧ But g w wr) (fun _ x _ => (intOf x).toNat)
    case atStart => exact ⟨⟨#[]⟩, n, rfl, rfl, by omega, Nat.zero_le _, hr3.le (by omega), T3⟩
    case round =>
      obtain ⟨s, m, rfl, rfl, hm, hs, hrr, TT⟩ := hrel
      by_cases m0 : m = 0
      · subst m0
        go_wp2_with fail
        go_ret
        exact ⟨s, by omega, rfl, hrr.le (by omega), TT⟩
      · have m0' : (0 : Int) < m := by omega
        go_wp2_with fail
        refine (of_calls g _ wr.heap.size 7 7 _ _ (hrr.on ((On.refl wr).alloc _)) (by omega) (Row.of (Blk.new wr _ _)) rfl (by omega) (by omega) (by omega) (Nat.ne_of_gt hrr.lt)).mono ?_
        rintro e w4 ⟨v, hv, rfl, hr4, T4⟩
        replace T4 := TT.trans ((But.of (g := g) ((On.refl wr).alloc _)).trans T4)
        have hs4 : ∃ s : ByteArray, s.size ≤ 6 ∧ v = .string s := by
          simp at hv
          rcases hv with rfl | rfl | rfl | rfl | rfl | rfl | rfl <;> exact ⟨_, by decide, rfl⟩
        obtain ⟨y, hy, rfl⟩ := hs4
        clear hv
        have st : (s ++ y).size = s.size + y.size := ByteArray.size_append
        have ST := Lib.hid st
        clear st
        have s3 : s.size ≤ 1000 := by omega
        go_wp2_with fail
        go_roundw
        case rel =>
          refine ⟨s ++ y, m - 1, rfl, ?_, by omega, by rw [ST.out]; omega, hr4.le (by omega), T4⟩
          go_num
        case measure => simp [intOf]; omega
set_option maxRecDepth 100000 in
theorem anytext_calls (g B : Nat) (w : World) (hr : Rd w g B) (hB : B ≤ 10000000) :
    Calls Tryd.prog 46 #[.pointer (some ⟨g, 0, none⟩)] w fun e w' => ∃ s : ByteArray, s.size ≤ 1000000 ∧ e = .returned (.string s) ∧ Rd w' g (B + 60) ∧ But g w w' := by
  go_enter Tryd.func46, Tryd.ntmps46
  go_wp2_with fail
  refine (pick_calls g B 16 w hr (by omega) (by omega) (by omega)).mono ?_
  rintro e w1 ⟨k, hk, rfl, hr1, T⟩
  by_cases h0 : k = 0
  · subst h0
    go_wp2_with fail
    refine (many_calls _ 301 w1 (by decide) (by omega)).mono ?_
    rintro e w4 ⟨o, ho, rfl, O4⟩
    go_wp2_with fail
    go_ret
    exact ⟨o, Nat.le_trans ho (by decide), rfl, (hr1.on O4).le (by omega), T.trans (But.of O4)⟩
  · have k0 : ((k : Int) == 0) = false := by simp; omega
    go_wp2_with fail
    refine (text_calls g (B + 1) w1 hr1 (by omega)).mono ?_
    rintro e w2 ⟨s, hs, rfl, hr2, T2⟩
    go_wp2_with fail
    go_ret
    exact ⟨s, by omega, rfl, hr2.le (by omega), T.trans T2⟩
end Go.Proofs.YtpbfhflggicpiaaDoor.Draw
