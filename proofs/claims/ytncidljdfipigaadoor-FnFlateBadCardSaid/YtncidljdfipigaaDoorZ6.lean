/- Own texts joined: DrawT, WStore, WTok, WToks, WToksS. -/
import Derived.WalkKit
import Derived.WalkSpells
import Derived.Deep.QuietTactic
import Derived.BigQuiet
import Derived.Test.YtncidljdfipigaaDoorZ0
import Derived.Test.YtncidljdfipigaaDoorZ1
import Derived.Test.YtncidljdfipigaaDoorZ2
import Derived.Test.YtncidljdfipigaaDoorZ3
import Derived.Test.YtncidljdfipigaaDoorZ4
import Derived.Test.YtncidljdfipigaaDoorZ5
/- The draws of texts: some text, not a long one. -/
namespace Go.Proofs.YtncidljdfipigaaDoor.Draw
open Go.RowKit Go.Proofs.YtncidljdfipigaaDoor.Mem Go.Proofs.YtncidljdfipigaaDoor.Wi
set_option linter.unusedVariables false
set_option linter.unusedSimpArgs false
theorem By.new (w : World) : By (w.alloc (.cells #[] 5)) w.heap.size 0 [] := by
  refine ⟨⟨?_, fun g hg => by simp [Value.ownBlock] at hg; exact hg.symm⟩⟩
  exact World.ownsRow_lit w (base := 0) (e := 5) (size := 1) #[] 0 (Nat.zero_le _) (by unfold maxLen; omega) (by simp)
set_option maxRecDepth 100000 in
theorem many_calls (s : ByteArray) (n : Nat) (w : World) (hs : s.size ≤ 1000) (hn : n ≤ 1000) :
    Calls Tryd.prog 82 #[.string s, .int .i64 n] w fun e w' => ∃ o : ByteArray, o.size ≤ n * s.size ∧ e = .returned (.string o) ∧ On w w' := by
  obtain ⟨M, hM⟩ : ∃ M, n * s.size = M := ⟨_, rfl⟩
  have hMb : M ≤ 1000000 := by rw [← hM]; have := Nat.mul_le_mul hn hs; omega
  have HM := Lib.hid hM
  rw [hM]
  clear hM
  go_enter Tryd.func82, Tryd.ntmps82
  go_wp2_with fail
  go_loopw [0, 1, 5] (fun a b c wr => ∃ (t o : ByteArray) (k : Nat), a = .string t ∧ b = .int .i64 (k : Int) ∧ c = .string o ∧ RowKit.Hid (o.size + k * t.size ≤ M ∧ t.size ≤ 4000000) ∧ k ≤ 1000 ∧ On w wr) (fun _ b _ _ => (intOf b).toNat)
  case atStart => exact ⟨s, ⟨#[]⟩, n, rfl, rfl, rfl, Lib.hid ⟨by show 0 + n * s.size ≤ _; rw [HM.out]; omega, by omega⟩, hn, On.refl _⟩
  case round =>
    obtain ⟨t, o, k, rfl, rfl, rfl, HB, hk, O⟩ := hrel
    by_cases h0 : k = 0
    · subst h0
      go_wp2_with fail
      go_ret
      exact ⟨o, by have := HB.out.1; omega, rfl, O⟩
    · have h0' : (0 : Int) < k := by omega
      obtain ⟨hb1, hb2⟩ := HB.out
      have ht : t.size ≤ 1000000 := by have := Nat.le_mul_of_pos_left t.size (show 0 < k by omega); omega
      have ho : o.size ≤ 1000000 := by omega
      have e2 : Int.tmod (k : Int) 2 = ((k % 2 : Nat) : Int) := tmod_nat k 2
      have e3 : Int.tdiv (k : Int) 2 = ((k / 2 : Nat) : Int) := tdiv_nat k 2
      have hq : k * t.size = k / 2 * (t.size + t.size) + k % 2 * t.size := by
        conv => lhs; rw [← Nat.div_add_mod k 2]
        rw [Nat.add_mul, Nat.mul_add, Nat.mul_assoc, Nat.two_mul]
      obtain ⟨q, hqk⟩ : ∃ q, k / 2 = q := ⟨_, rfl⟩
      have hqlt : q < k := by omega
      rw [hqk] at hq e3
      have HQ := Lib.hid hq
      clear hq hb1 hb2 hqk
      have st : (t ++ t).size = t.size + t.size := ByteArray.size_append
      have so : (o ++ t).size = o.size + t.size := ByteArray.size_append
      have ST := Lib.hid st
      have SO := Lib.hid so
      clear st so
      by_cases h1 : k % 2 = 1
      case' pos => rw [h1] at e2
      case' neg =>
        have h10 : k % 2 = 0 := by omega
        rw [h10] at e2
      all_goals
        go_wp2_with fail
        go_roundw
        case rel =>
          first
          | refine ⟨t ++ t, o ++ t, q, rfl, rfl, rfl, Lib.hid ⟨?_, by rw [ST.out]; omega⟩, by omega, O⟩
            have a := HQ.out
            have b := HB.out.1
            rw [h1] at a
            rw [ST.out, SO.out]; omega
          | refine ⟨t ++ t, o, q, rfl, rfl, rfl, Lib.hid ⟨?_, by rw [ST.out]; omega⟩, by omega, O⟩
            have a := HQ.out
            have b := HB.out.1
            rw [ST.out]; omega
        case measure => simp [intOf]; omega
theorem But.kp {g : Nat} {w w' : World} (h : But g w w') : Kp [g] w w' := ⟨h.out.os, h.out.tape, h.out.output, h.out.size, fun i hi hs => h.out.block i hi (fun e => hs (by cases e; simp))⟩
theorem But.ofKp {g : Nat} {w w' : World} (h : Kp [g] w w') : But g w w' := ⟨⟨h.os, h.tape, h.output, h.size, fun i hi hs => h.block i hi (fun e => hs (by simp at e; rw [e]))⟩⟩
theorem Rd.kp {w w' : World} {g B : Nat} {S : List Nat} (h : Rd w g B) (k : Kp S w w') (hs : ∀ y ∈ S, g < y) : Rd w' g B :=
  h.grow h.lt (fun i hi => k.block i (Nat.lt_of_le_of_lt hi h.lt) (fun hm => by have := hs i hm; omega))
set_option maxRecDepth 100000 in
theorem text_calls (g B : Nat) (w : World) (hr : Rd w g B) (hB : B ≤ 100000000) :
    Calls Tryd.prog 83 #[.pointer (some ⟨g, 0, none⟩)] w fun e w' => ∃ s : ByteArray, s.size ≤ 300 ∧ e = .returned (.string s) ∧ Rd w' g (B + 50) ∧ But g w w' := by
  go_enter Tryd.func83, Tryd.ntmps83
  go_wp2_with fail
  refine (pick_calls g B 8 w hr (by omega) (by omega) (by omega)).mono ?_
  rintro e w1 ⟨k, hk, rfl, hr1, T⟩
  by_cases h0 : k = 0
  · subst h0
    go_wp2_with fail
    go_ret
    exact ⟨⟨#[]⟩, by show 0 ≤ _; omega, rfl, hr1.le (by omega), T⟩
  by_cases h1 : k = 1
  · subst h1
    go_wp2_with fail
    refine (of_calls g (B + 1) w1.heap.size 4 4 _ _ (hr1.on ((On.refl w1).alloc _)) (by omega) (Row.of (Blk.new w1 _ _)) rfl (by omega) (by omega) (by omega) (Nat.ne_of_gt hr1.lt)).mono ?_
    rintro e w2 ⟨v, hv, rfl, hr2, T2⟩
    replace T := T.trans ((But.of (g := g) ((On.refl w1).alloc _)).trans T2)
    have hs : ∃ s : ByteArray, s.size ≤ 6 ∧ v = .string s := by
      simp at hv
      rcases hv with rfl | rfl | rfl | rfl <;> exact ⟨_, by decide, rfl⟩
    obtain ⟨s, hs, rfl⟩ := hs
    clear hv
    go_wp2_with fail
    refine (pick_calls g (B + 1 + 1) 40 w2 hr2 (by omega) (by omega) (by omega)).mono ?_
    rintro e w3 ⟨j, hj, rfl, hr3, T3⟩
    have ej : IntKind.i64.wrap (1 + (j : Int)) = ((1 + j : Nat) : Int) := by rw [IntKind.wrap_i64]; omega
    go_wp2_with fail
    refine (many_calls s (1 + j) w3 (by omega) (by omega)).mono ?_
    rintro e w4 ⟨o, ho, rfl, O4⟩
    have ho2 : (1 + j) * s.size ≤ 40 * 6 := Nat.mul_le_mul (by omega) hs
    go_wp2_with fail
    go_ret
    exact ⟨o, by omega, rfl, (hr3.on O4).le (by omega), (T.trans T3).trans (But.of O4)⟩
  by_cases h2 : k = 2
  · subst h2
    go_wp2_with fail
    have O2 := (On.refl w1).alloc (.cells #[] 5)
    have B2 := By.new w1
    have T2 := T.trans (But.of (g := g) O2)
    have hr2 := hr1.on O2
    have hz2 : (w1.alloc (.cells #[] 5)).heap.size = w1.heap.size + 1 := Array.size_push _
    have hgl := hr1.lt
    have hz0 := T.size
    generalize hr0 : w1.heap.size = r at *
    generalize w1.alloc (.cells #[] 5) = w2 at *
    refine (pick_calls g (B + 1) 40 w2 hr2 (by omega) (by omega) (by omega)).mono ?_
    rintro e w3 ⟨n, hn, rfl, hr3, T3⟩
    have B3 := B2.kp T3.kp (by simp; omega)
    replace T3 := T2.trans T3
    go_wp2_with fail
    go_loopw [3, 4] (fun o x wr => ∃ (r' cap : Nat) (l : List Nat) (m : Nat), o = .slice (some ⟨r', 0, none⟩) l.length cap ∧ x = .int .i64 (m : Int) ∧ RowKit.Hid (l.length + m = n) ∧ m ≤ n ∧ By wr r' cap l ∧ Rd wr g (B + 2 + l.length) ∧ But g w wr ∧ w.heap.size ≤ r' ∧ g < r') (fun _ x _ => (intOf x).toNat)
    case atStart => exact ⟨r, 0, [], n, rfl, rfl, Lib.hid (by simp), by omega, B3, hr3, T3, by omega, hgl⟩
    case round =>
      obtain ⟨r', cap, l, m, rfl, rfl, HL, hm, hBy, hrr, TT, hr', hrg⟩ := hrel
      have hlen : l.length ≤ 40 := by have := HL.out; omega
      by_cases m0 : m = 0
      · subst m0
        have cv := bytes_conv hBy.out
        go_wp2_with fail
        go_ret
        exact ⟨strB l, by rw [strB_size]; omega, rfl, hrr.le (by omega), TT⟩
      · have m0' : (0 : Int) < m := by omega
        go_wp2_with fail
        refine (pick_calls g (B + 2 + l.length) 256 wr hrr (by omega) (by omega) (by omega)).mono ?_
        rintro e w4 ⟨x, hx, rfl, hr4, T4⟩
        have hBy4 := (hBy.kp T4.kp (by simp; omega)).out
        have hu8 : IntKind.u8.wrap (x : Int) = (x : Int) := wr_u8 _ (by omega) (by omega)
        go_wp2_with (at_builtin; go_must (refine wpList_byte (x := x) rfl _ _ rfl rfl hBy4 rfl (by omega) ?_); intro r6 cap6 w6 hby6 hr6 hrl6 K6 hc1 hc2)
        go_roundw
        case rel =>
          have hz1 := TT.size
          have hz4 := T4.size
          have hgl4 := hr4.lt
          refine ⟨r6, cap6, l ++ [x], m - 1, by rw [List.length_append]; rfl, by go_num, Lib.hid (by have := HL.out; rw [List.length_append, List.length_singleton]; omega), by omega, ⟨?_⟩, ?_, But.ofKp ((TT.trans T4).kp.trans K6 (fun y hy => by simp at hy ⊢; omega)), by omega, by omega⟩
          · rw [List.length_append]; exact hby6
          · rw [List.length_append]; exact (hr4.kp K6 (by simpa using hrg)).le (by simp; omega)
        case measure => simp [intOf]; omega
  by_cases h3 : k = 3
  · subst h3
    go_wp2_with fail
    refine (many_calls _ 300 w1 (by decide) (by omega)).mono ?_
    rintro e w4 ⟨o, ho, rfl, O4⟩
    go_wp2_with fail
    go_ret
    exact ⟨o, ho, rfl, (hr1.on O4).le (by omega), T.trans (But.of O4)⟩
  · have k0 : ((k : Int) == 0) = false := by simp; omega
    have k1 : ((k : Int) == 1) = false := by simp; omega
    have k2 : ((k : Int) == 2) = false := by simp; omega
    have k3 : ((k : Int) == 3) = false := by simp; omega
    go_wp2_with fail
    refine (pick_calls g (B + 1) 12 w1 hr1 (by omega) (by omega) (by omega)).mono ?_
    rintro e w3 ⟨n, hn, rfl, hr3, T3⟩
    replace T3 := T.trans T3
    go_wp2_with fail
    go_loopw [5, 6] (fun o x wr => ∃ (s : ByteArray) (m : Nat), o = .string s ∧ x = .int .i64 (m : Int) ∧ m ≤ n ∧ s.size ≤ 6 * (n - m) ∧ Rd wr g (B + 2 + (n - m)) ∧ But g w wr) (fun _ x _ => (intOf x).toNat)
    case atStart => exact ⟨⟨#[]⟩, n, rfl, rfl, by omega, Nat.zero_le _, hr3.le (by omega), T3⟩
    case round =>
      obtain ⟨s, m, rfl, rfl, hm, hs, hrr, TT⟩ := hrel
      by_cases m0 : m = 0
      · subst m0
        go_wp2_with fail
        go_ret
        exact ⟨s, by omega, rfl, hrr.le (by omega), TT⟩
      · have m0' : (0 : Int) < m := by omega
        go_wp2_with fail
        refine (of_calls g _ wr.heap.size 7 7 _ _ (hrr.on ((On.refl wr).alloc _)) (by omega) (Row.of (Blk.new wr _ _)) rfl (by omega) (by omega) (by omega) (Nat.ne_of_gt hrr.lt)).mono ?_
        rintro e w4 ⟨v, hv, rfl, hr4, T4⟩
        replace T4 := TT.trans ((But.of (g := g) ((On.refl wr).alloc _)).trans T4)
        have hs4 : ∃ s : ByteArray, s.size ≤ 6 ∧ v = .string s := by
          simp at hv
          rcases hv with rfl | rfl | rfl | rfl | rfl | rfl | rfl <;> exact ⟨_, by decide, rfl⟩
        obtain ⟨y, hy, rfl⟩ := hs4
        clear hv
        have st : (s ++ y).size = s.size + y.size := ByteArray.size_append
        have ST := Lib.hid st
        clear st
        have s3 : s.size ≤ 1000 := by omega
        go_wp2_with fail
        go_roundw
        case rel =>
          refine ⟨s ++ y, m - 1, rfl, ?_, by omega, by rw [ST.out]; omega, hr4.le (by omega), T4⟩
          go_num
        case measure => simp [intOf]; omega
set_option maxRecDepth 100000 in
theorem anytext_calls (g B : Nat) (w : World) (hr : Rd w g B) (hB : B ≤ 10000000) :
    Calls Tryd.prog 46 #[.pointer (some ⟨g, 0, none⟩)] w fun e w' => ∃ s : ByteArray, s.size ≤ 1000000 ∧ e = .returned (.string s) ∧ Rd w' g (B + 60) ∧ But g w w' := by
  go_enter Tryd.func46, Tryd.ntmps46
  go_wp2_with fail
  refine (pick_calls g B 16 w hr (by omega) (by omega) (by omega)).mono ?_
  rintro e w1 ⟨k, hk, rfl, hr1, T⟩
  by_cases h0 : k = 0
  · subst h0
    go_wp2_with fail
    refine (many_calls _ 301 w1 (by decide) (by omega)).mono ?_
    rintro e w4 ⟨o, ho, rfl, O4⟩
    go_wp2_with fail
    go_ret
    exact ⟨o, Nat.le_trans ho (by decide), rfl, (hr1.on O4).le (by omega), T.trans (But.of O4)⟩
  · have k0 : ((k : Int) == 0) = false := by simp; omega
    go_wp2_with fail
    refine (text_calls g (B + 1) w1 hr1 (by omega)).mono ?_
    rintro e w2 ⟨s, hs, rfl, hr2, T2⟩
    go_wp2_with fail
    go_ret
    exact ⟨s, by omega, rfl, hr2.le (by omega), T.trans T2⟩
set_option maxRecDepth 100000 in
theorem drawstore_calls (a0 : Option Addr) (len0 cap0 : Nat) (z0 : List Int) (w : World) (w0 : (a0 = none ∧ len0 = 0 ∧ cap0 = 0 ∧ z0 = []) ∨ ∃ x, a0 = some x ∧ len0 ≤ cap0 ∧ cap0 ≤ maxLen ∧ z0.length = cap0 ∧ (∀ i, i < z0.length → w.cell? (x.add i) = some (.int .u8 (z0.getD i 0))) ∧ ∀ n ∈ z0, (Lit.int .u8 n).wf = true) :
    Calls Tryd.prog 21 #[.slice a0 len0 cap0] w fun e w' => ∃ s : ByteArray, s.size ≤ 1000000 ∧ e = .returned (.string s) ∧ On w w' := by
  go_enter Tryd.func21, Tryd.ntmps21
  go_wp2_with fail
  refine (open_calls a0 len0 cap0 z0 w w0).mono ?_
  rintro e w1 ⟨g, rfl, hr, hg, O⟩
  go_wp2_with fail
  refine (anytext_calls g 0 w1 hr (by omega)).mono ?_
  rintro e w2 ⟨s, hs, rfl, hr2, T⟩
  go_wp2_with fail
  go_ret
  exact ⟨s, hs, rfl, T.on O hg⟩
set_option maxRecDepth 100000 in
theorem drawfixed_calls (a0 : Option Addr) (len0 cap0 : Nat) (z0 : List Int) (w : World) (w0 : (a0 = none ∧ len0 = 0 ∧ cap0 = 0 ∧ z0 = []) ∨ ∃ x, a0 = some x ∧ len0 ≤ cap0 ∧ cap0 ≤ maxLen ∧ z0.length = cap0 ∧ (∀ i, i < z0.length → w.cell? (x.add i) = some (.int .u8 (z0.getD i 0))) ∧ ∀ n ∈ z0, (Lit.int .u8 n).wf = true) :
    Calls Tryd.prog 31 #[.slice a0 len0 cap0] w fun e w' => ∃ s : ByteArray, s.size ≤ 1000000 ∧ e = .returned (.string s) ∧ On w w' := by
  go_enter Tryd.func31, Tryd.ntmps31
  go_wp2_with fail
  refine (open_calls a0 len0 cap0 z0 w w0).mono ?_
  rintro e w1 ⟨g, rfl, hr, hg, O⟩
  go_wp2_with fail
  refine (anytext_calls g 0 w1 hr (by omega)).mono ?_
  rintro e w2 ⟨s, hs, rfl, hr2, T⟩
  go_wp2_with fail
  go_ret
  exact ⟨s, hs, rfl, T.on O hg⟩
set_option maxRecDepth 100000 in
theorem drawown_calls (a0 : Option Addr) (len0 cap0 : Nat) (z0 : List Int) (w : World) (w0 : (a0 = none ∧ len0 = 0 ∧ cap0 = 0 ∧ z0 = []) ∨ ∃ x, a0 = some x ∧ len0 ≤ cap0 ∧ cap0 ≤ maxLen ∧ z0.length = cap0 ∧ (∀ i, i < z0.length → w.cell? (x.add i) = some (.int .u8 (z0.getD i 0))) ∧ ∀ n ∈ z0, (Lit.int .u8 n).wf = true) :
    Calls Tryd.prog 36 #[.slice a0 len0 cap0] w fun e w' => ∃ s : ByteArray, s.size ≤ 1000000 ∧ e = .returned (.string s) ∧ On w w' := by
  go_enter Tryd.func36, Tryd.ntmps36
  go_wp2_with fail
  refine (open_calls a0 len0 cap0 z0 w w0).mono ?_
  rintro e w1 ⟨g, rfl, hr, hg, O⟩
  go_wp2_with fail
  refine (anytext_calls g 0 w1 hr (by omega)).mono ?_
  rintro e w2 ⟨s, hs, rfl, hr2, T⟩
  go_wp2_with fail
  go_ret
  exact ⟨s, hs, rfl, T.on O hg⟩
set_option maxRecDepth 100000 in
theorem drawflateput_calls (a0 : Option Addr) (len0 cap0 : Nat) (z0 : List Int) (w : World) (w0 : (a0 = none ∧ len0 = 0 ∧ cap0 = 0 ∧ z0 = []) ∨ ∃ x, a0 = some x ∧ len0 ≤ cap0 ∧ cap0 ≤ maxLen ∧ z0.length = cap0 ∧ (∀ i, i < z0.length → w.cell? (x.add i) = some (.int .u8 (z0.getD i 0))) ∧ ∀ n ∈ z0, (Lit.int .u8 n).wf = true) :
    Calls Tryd.prog 35 #[.slice a0 len0 cap0] w fun e w' => ∃ s : ByteArray, s.size ≤ 1000000 ∧ e = .returned (.string s) ∧ On w w' := by
  go_enter Tryd.func35, Tryd.ntmps35
  go_wp2_with fail
  refine (open_calls a0 len0 cap0 z0 w w0).mono ?_
  rintro e w1 ⟨g, rfl, hr, hg, O⟩
  go_wp2_with fail
  refine (anytext_calls g 0 w1 hr (by omega)).mono ?_
  rintro e w2 ⟨s, hs, rfl, hr2, T⟩
  go_wp2_with fail
  go_ret
  exact ⟨s, hs, rfl, T.on O hg⟩
end Go.Proofs.YtncidljdfipigaaDoor.Draw

/- What StorePut does, in both programs: the plain packing of a text as it is. Conditions: sizes. -/
namespace Go.Proofs.YtncidljdfipigaaDoor.Wi
open Go.RowKit Go.Proofs.YtncidljdfipigaaDoor.Mem Go.Proofs.YtncidljdfipigaaDoor.Bt
set_option linter.unusedVariables false
set_option linter.unusedSimpArgs false
def storeB (s : ByteArray) : ByteArray := if s.size ≤ 300 then strB (En.store (chars s)) else ⟨#[]⟩
theorem iw_new (w : World) : IW (w.alloc (.cells #[.slice none 0 0, .int .i64 0] 50)) w.heap.size w.heap.size [] :=
  ⟨.slice none 0 0, Blk.new w _ _, ⟨World.ownsRow_nil _ _ _ _, fun k hk => by simp [Value.ownBlock] at hk⟩, .inr rfl⟩
theorem sw_new (w : World) : SW (w.alloc (.cells #[.slice none 0 0, .int .i64 0, .int .i64 0] 88)) w.heap.size w.heap.size [] :=
  ⟨.slice none 0 0, Blk.new w _ _, ⟨World.ownsRow_nil _ _ _ _, fun k hk => by simp [Value.ownBlock] at hk⟩, .inr rfl⟩
/-- What a writer that a call made itself leaves. -/
theorem Mv.on {g r r' : Nat} {a w w' : World} (h : Mv g r w r' w') (O : On a w) (hg : a.heap.size ≤ g) (hr : a.heap.size ≤ r) : On a w' ∧ a.heap.size ≤ r' := by
  refine ⟨h.kp.on O (fun x hx => ?_), ?_⟩
  · simp only [List.mem_cons, List.not_mem_nil, or_false] at hx
    rcases hx with rfl | rfl <;> assumption
  · have := O.size
    rcases h.at_ with e | e <;> omega
theorem IW.text {w : World} {g r : Nat} {bs : List Bool} (h : IW w g r bs) : ∃ v, w.cell? ⟨g, 0, none⟩ = some v ∧ (convert 22 9 v).run Tryd.prog w = .ok (.string (strB (pack bs))) w := by
  obtain ⟨v, hb, hy, _⟩ := h.out
  exact ⟨v, (hb.cell 0).trans rfl, bytes_conv hy⟩
theorem SW.text {w : World} {g r : Nat} {bs : List Bool} (h : SW w g r bs) (h8 : bs.length % 8 = 0) : ∃ v, w.cell? ⟨g, 0, none⟩ = some v ∧ (convert 22 9 v).run Tryd.prog w = .ok (.string (strB (pack bs))) w := by
  obtain ⟨v, hb, hy, _⟩ := h.out
  rw [show 8 * (bs.length / 8) = bs.length from by omega, List.take_length] at hy
  exact ⟨v, (hb.cell 0).trans rfl, bytes_conv hy⟩
theorem Bt.lenn (n num : Nat) : (bitsOf num n).length = n := bits_length n num
theorem store_text (s : ByteArray) : strB (pack (En.storeBits s.size)) ++ s = strB (En.store (chars s)) := by
  rw [strB_app]; unfold En.store; rw [chars_length]
theorem store_bits8 (n : Nat) : (En.storeBits n).length % 8 = 0 := by rw [En.storeBits_length]
set_option maxRecDepth 100000 in
theorem istore_calls (s : ByteArray) (w : World) :
    Calls Tryd.prog 22 #[.string s] w (Tells w (.string (storeB s))) := by
  by_cases h : s.size ≤ 300
  · have h' : (s.size : Int) ≤ 300 := by omega
    have HR : RowKit.Hid (storeB s = strB (pack (En.storeBits s.size)) ++ s) := Lib.hid (by unfold storeB; rw [if_pos h, store_text])
    go_enter Tryd.func22, Tryd.ntmps22
    go_wp2_with fail
    refine (put_calls _ _ [] 1 3 _ (iw_new w) (by omega) (by simp) (by omega)).mono ?_
    rintro e w1 ⟨r1, rfl, hw1, M1⟩
    obtain ⟨O1, hr1⟩ := M1.on ((On.refl w).alloc _) (Nat.le_refl _) (Nat.le_refl _)
    go_wp2_with fail
    refine (even_calls _ _ _ w1 hw1 (by simp [bitsOf])).mono ?_
    rintro e w2 ⟨rfl, hw2, M2⟩
    obtain ⟨O2, hr2⟩ := M2.on O1 (Nat.le_refl _) hr1
    go_wp2_with fail
    refine (put_calls _ _ _ s.size 16 w2 hw2 (by omega) (by rw [pad_length]; simp [bitsOf]) (by omega)).mono ?_
    rintro e w3 ⟨r3, rfl, hw3, M3⟩
    obtain ⟨O3, hr3⟩ := M3.on O2 (Nat.le_refl _) hr2
    go_wp2_with fail
    rw [show (65535 : Int) - (s.size : Int) = ((65535 - s.size : Nat) : Int) from by omega]
    refine (put_calls _ _ _ (65535 - s.size) 16 w3 hw3 (by omega) (by rw [List.length_append, pad_length, bits_length]; simp [bitsOf]) (by omega)).mono ?_
    rintro e w4 ⟨r4, rfl, hw4, M4⟩
    obtain ⟨O4, hr4⟩ := M4.on O3 (Nat.le_refl _) hr3
    have hw5 : IW w4 w.heap.size r4 (En.storeBits s.size) := hw4
    obtain ⟨v, c0, hconv⟩ := hw5.text
    have hcat : ¬ (9223372036854775807 < (strB (pack (En.storeBits s.size))).size + s.size) := by rw [strB_size, pack_length, En.storeBits_length]; omega
    clear hw1 hw2 hw3 hw4 hw5
    go_wp2_with fail
    go_ret
    exact ⟨by rw [HR.out]; rfl, O4⟩
  · have h' : (300 : Int) < s.size := by omega
    have HR : RowKit.Hid (storeB s = ⟨#[]⟩) := Lib.hid (by unfold storeB; rw [if_neg h])
    go_enter Tryd.func22, Tryd.ntmps22
    go_wp2_with fail
    go_ret
    exact ⟨by rw [HR.out]; rfl, On.refl _⟩
set_option maxRecDepth 100000 in
theorem sstore_calls (s : ByteArray) (w : World) (h : s.size ≤ 300) :
    Calls Tryd.prog 50 #[.string s] w (Tells w (.string (strB (En.store (chars s))))) := by
  have h' : (s.size : Int) ≤ 300 := by omega
  have HR : RowKit.Hid (strB (En.store (chars s)) = strB (pack (En.storeBits s.size)) ++ s) := Lib.hid (by rw [store_text])
  go_enter Tryd.func50, Tryd.ntmps50
  go_wp2_with fail
  refine (sput_calls _ _ [] 1 1 _ (sw_new w) (by omega) (by simp) (by omega)).mono ?_
  rintro e w1 ⟨r1, rfl, hw1, M1⟩
  obtain ⟨O1, hr1⟩ := M1.on ((On.refl w).alloc _) (Nat.le_refl _) (Nat.le_refl _)
  go_wp2_with fail
  refine (sput_calls _ _ _ 0 2 w1 hw1 (by omega) (by simp [bitsOf]) (by omega)).mono ?_
  rintro e w2 ⟨r2, rfl, hw2, M2⟩
  obtain ⟨O2, hr2⟩ := M2.on O1 (Nat.le_refl _) hr1
  have hw2' : SW w2 w.heap.size r2 (bitsOf 1 3) := hw2
  go_wp2_with fail
  refine (whole_calls _ _ _ w2 hw2' (by simp [bitsOf])).mono ?_
  rintro e w3 ⟨r3, rfl, hw3, M3⟩
  obtain ⟨O3, hr3⟩ := M3.on O2 (Nat.le_refl _) hr2
  go_wp2_with fail
  refine (sput_calls _ _ _ s.size 16 w3 hw3 (by omega) (by rw [pad_length]; simp [bitsOf]) (by omega)).mono ?_
  rintro e w4 ⟨r4, rfl, hw4, M4⟩
  obtain ⟨O4, hr4⟩ := M4.on O3 (Nat.le_refl _) hr3
  go_wp2_with fail
  rw [show (65535 : Int) - (s.size : Int) = ((65535 - s.size : Nat) : Int) from by omega]
  refine (sput_calls _ _ _ (65535 - s.size) 16 w4 hw4 (by omega) (by rw [List.length_append, pad_length, bits_length]; simp [bitsOf]) (by omega)).mono ?_
  rintro e w5 ⟨r5, rfl, hw5, M5⟩
  obtain ⟨O5, hr5⟩ := M5.on O4 (Nat.le_refl _) hr4
  have hw6 : SW w5 w.heap.size r5 (En.storeBits s.size) := hw5
  obtain ⟨v, c0, hconv⟩ := hw6.text (store_bits8 _)
  have hcat : ¬ (9223372036854775807 < (strB (pack (En.storeBits s.size))).size + s.size) := by rw [strB_size, pack_length, En.storeBits_length]; omega
  clear hw1 hw2 hw3 hw4 hw5 hw6 hw2'
  go_wp2_with fail
  go_ret
  exact ⟨by rw [HR.out]; rfl, O5⟩
set_option maxRecDepth 100000 in
theorem sput_store_calls (s : ByteArray) (w : World) :
    Calls Tryd.prog 23 #[.string s] w (Tells w (.string (storeB s))) := by
  by_cases h : s.size ≤ 300
  · have h' : (s.size : Int) ≤ 300 := by omega
    have HR : RowKit.Hid (storeB s = strB (En.store (chars s))) := Lib.hid (by unfold storeB; rw [if_pos h])
    go_enter Tryd.func23, Tryd.ntmps23
    go_wp2_with fail
    refine (sstore_calls s w h).mono ?_
    rintro e w1 ⟨rfl, O1⟩
    go_wp2_with fail
    go_ret
    exact ⟨by rw [HR.out]; rfl, O1⟩
  · have h' : (300 : Int) < s.size := by omega
    have HR : RowKit.Hid (storeB s = ⟨#[]⟩) := Lib.hid (by unfold storeB; rw [if_neg h])
    go_enter Tryd.func23, Tryd.ntmps23
    go_wp2_with fail
    go_ret
    exact ⟨by rw [HR.out]; rfl, On.refl _⟩
end Go.Proofs.YtncidljdfipigaaDoor.Wi

/- Tokens of a text, in both programs: the plain ones. Conditions: sizes. -/
namespace Go.Proofs.YtncidljdfipigaaDoor.Wi
open Go.RowKit Go.Proofs.YtncidljdfipigaaDoor.Mem Go.Proofs.YtncidljdfipigaaDoor.Lz
set_option linter.unusedVariables false
set_option linter.unusedSimpArgs false
def tokArr (t : Tok) : Array Value := #[.int .i64 t.byte, .int .i64 t.long, .int .i64 t.back]
def tokCells (l : List Tok) : List Value := l.flatMap fun t => (tokArr t).toList
theorem tokCells_snoc (l : List Tok) (t : Tok) : tokCells (l ++ [t]) = tokCells l ++ (tokArr t).toList := by simp [tokCells]
theorem tokCells_length (l : List Tok) : (tokCells l).length = l.length * 3 := by
  induction l with
  | nil => rfl
  | cons t l ih => unfold tokCells at ih ⊢; rw [List.flatMap_cons, List.length_append, ih, List.length_cons]; simp [tokArr]; omega
/-- What the program holds behind j distances. -/
def held (t : List Nat) (a j : Nat) : Tok := if 3 ≤ (best t a j).1 then ⟨0, ((best t a j).1 : Nat), ((best t a j).2 : Nat)⟩ else ⟨(t.getD a 0 : Nat), 0, 0⟩
theorem held_step (t : List Nat) (a j : Nat) : held t a (j + 1) = if 3 ≤ mlen t a (j + 1) ∧ (held t a j).long < (mlen t a (j + 1) : Nat) then ⟨0, ((mlen t a (j + 1) : Nat) : Int), ((j + 1 : Nat) : Int)⟩ else held t a j := by
  by_cases hn : mlen t a (j + 1) > (best t a j).1
  · have e : best t a (j + 1) = (mlen t a (j + 1), j + 1) := by simp only [best]; rw [if_pos hn]
    unfold held
    rw [e]
    dsimp only
    by_cases h3 : 3 ≤ (best t a j).1
    · rw [if_pos h3, if_pos (by omega)]
      dsimp only
      rw [if_pos (by omega)]
    · rw [if_neg h3]
      dsimp only
      by_cases h : 3 ≤ mlen t a (j + 1)
      · rw [if_pos h, if_pos (by omega)]
      · rw [if_neg h, if_neg (by omega)]
  · have e : best t a (j + 1) = best t a j := by simp only [best]; rw [if_neg hn]
    unfold held
    rw [e]
    by_cases h3 : 3 ≤ (best t a j).1
    · rw [if_pos h3]
      dsimp only
      rw [if_neg (by omega)]
    · rw [if_neg h3]
      dsimp only
      rw [if_neg (by omega)]
theorem held_long (t : List Nat) (a j : Nat) : ∃ L : Nat, (held t a j).long = (L : Int) ∧ L ≤ 60 := by
  have := best_le_60 t a j
  unfold held
  split
  · exact ⟨_, rfl, this⟩
  · exact ⟨0, rfl, by omega⟩
theorem held_form (t : List Nat) (a j : Nat) : ∃ (x : Int) (L : Nat) (z : Int), held t a j = ⟨x, L, z⟩ ∧ L ≤ 60 := by
  obtain ⟨L, h1, h2⟩ := held_long t a j
  exact ⟨(held t a j).byte, L, (held t a j).back, by rw [← h1], h2⟩
theorem toks_step (t : List Nat) (a : Nat) (ha : a < t.length) : toks t (t.length - a) a = held t a (min 250 a) :: toks t (t.length - (a + max ((held t a (min 250 a)).long).toNat 1)) (a + max ((held t a (min 250 a)).long).toNat 1) ∧ a + max ((held t a (min 250 a)).long).toNat 1 ≤ t.length := by
  obtain ⟨f, hf⟩ : ∃ f, t.length - a = f + 1 := ⟨t.length - a - 1, by omega⟩
  have hb := best_le t a (min 250 a)
  rw [hf]
  simp only [toks]
  rw [if_pos ha]
  unfold held
  by_cases h : (best t a (min 250 a)).1 < 3
  · rw [if_pos h, if_neg (by omega)]
    simp only
    rw [show (Int.toNat 0) = 0 from rfl, show max 0 1 = 1 from rfl, show t.length - (a + 1) = f from by omega]
    exact ⟨rfl, by omega⟩
  · rw [if_neg h, if_pos (by omega)]
    simp only [Int.toNat_natCast]
    rw [show max (best t a (min 250 a)).1 1 = (best t a (min 250 a)).1 from by omega]
    exact ⟨by rw [toks_more t f (t.length - (a + (best t a (min 250 a)).1)) _ (by omega) (by omega)], by omega⟩
theorem toks_end (t : List Nat) (a : Nat) (ha : t.length ≤ a) : toks t (t.length - a) a = [] := by
  rw [show t.length - a = 0 from by omega]; rfl
theorem run_step {t : List Nat} {a back n : Nat} (hn : n + run t (a + n) (a + n - back) (60 - n) = mlen t a back) (h1 : 1 ≤ back) (h2 : back ≤ a) (hc : n < 60 ∧ a + n < t.length ∧ t[a + n]? = t[a + n - back]?) :
    n + 1 + run t (a + (n + 1)) (a + (n + 1) - back) (60 - (n + 1)) = mlen t a back := by
  obtain ⟨f, hf⟩ : ∃ f, 60 - n = f + 1 := ⟨60 - n - 1, by omega⟩
  rw [hf] at hn
  simp only [run] at hn
  rw [if_pos hc.2] at hn
  rw [show 60 - (n + 1) = f from by omega, show a + (n + 1) = a + n + 1 from by omega, show a + n + 1 - back = a + n - back + 1 from by omega]
  omega
theorem run_stop {t : List Nat} {a back n : Nat} (hn : n + run t (a + n) (a + n - back) (60 - n) = mlen t a back) (hc : ¬ (n < 60 ∧ a + n < t.length ∧ t[a + n]? = t[a + n - back]?)) : n = mlen t a back := by
  by_cases h60 : n < 60
  · obtain ⟨f, hf⟩ : ∃ f, 60 - n = f + 1 := ⟨60 - n - 1, by omega⟩
    rw [hf] at hn
    simp only [run] at hn
    rw [if_neg (fun h => hc ⟨h60, h⟩)] at hn
    omega
  · rw [show 60 - n = 0 from by omega] at hn
    simp only [run] at hn
    omega
theorem tokinfo : (Tryd.prog.info? 67).map (fun i => (i.zero, i.size, i.bytes)) = some (some (.agg #[.int .i64 0, .int .i64 0, .int .i64 0]), 3, 24) := by kernel_rfl
/-- What a contract tells that makes tokens. -/
def GivesT (w : World) (l : List Tok) (e : Ending) (w' : World) : Prop := ∃ r cap, e = .returned (.slice (some ⟨r, 0, none⟩) l.length cap) ∧ Row w' r 67 (tokCells l) ∧ l.length ≤ cap ∧ cap ≤ maxLen ∧ w.heap.size ≤ r ∧ On w w'
def toksOf (s : ByteArray) : List Tok := if s.size ≤ 300 then tokens (chars s) else []
set_option maxRecDepth 100000 in
set_option maxHeartbeats 1000000 in
theorem itoks_calls (s : ByteArray) (w : World) : Calls Tryd.prog 59 #[.string s] w (GivesT w (toksOf s)) := by
  by_cases hs : s.size ≤ 300
  · have hs' : (s.size : Int) ≤ 300 := by omega
    have ht : toksOf s = tokens (chars s) := by unfold toksOf; rw [if_pos hs]
    have HT := Lib.hid ht
    have htl : (chars s).length = s.size := chars_length s
    have hat : ∀ i (h : i < s.size), (chars s)[i]? = some s[i].toNat := fun i h => by
      have := chars_at s h
      rw [List.getD_eq_getElem?_getD, List.getElem?_eq_getElem (by rw [htl]; exact h)] at this
      rw [List.getElem?_eq_getElem (by rw [htl]; exact h)]
      exact congrArg some this
    have h0 : tokens (chars s) = [] ++ toks (chars s) ((chars s).length - 0) 0 := rfl
    generalize chars s = t at *
    have HTL := Lib.hid htl
    have HAT := Lib.hid hat
    have H0 := Lib.hid h0
    clear ht htl hat h0
    go_enter Tryd.func59, Tryd.ntmps59
    go_wp2_with fail
    go_loopw [3, 4] (fun v x wr => ∃ (a : Nat) (done : List Tok), x = .int .i64 (a : Int) ∧ a ≤ s.size ∧ done.length ≤ a ∧ RowKit.Hid (tokens t = done ++ toks t (t.length - a) a) ∧ Own w.heap.size wr 67 3 v done.length (tokCells done) ∧ On w wr) (fun _ x _ => s.size - (intOf x).toNat)
    case atStart => exact ⟨0, [], rfl, by omega, by simp, H0, Own.new w 67 3 #[] 0 (Nat.zero_le _) rfl (Nat.le_refl _), (On.refl w).alloc _⟩
    case round =>
      obtain ⟨a, done, rfl, ha, hd, hT, hown, O⟩ := hrel
      by_cases hlt : a < s.size
      · obtain ⟨b, hbb⟩ : ∃ b, s[a] = b := ⟨_, rfl⟩
        have hbt : t.getD a 0 = b.toNat := by rw [List.getD_eq_getElem?_getD, HAT.out a hlt, hbb]; rfl
        have HBT := Lib.hid hbt
        obtain ⟨wo, hwo⟩ : ∃ wo : World, wo = wr := ⟨_, rfl⟩
        subst hwo
        have hb256 : (b.toNat : Int) < 256 := by have := b.toNat_lt; omega
        have hh0 : held t a 0 = ⟨(b.toNat : Int), 0, 0⟩ := by rw [← hbt]; rfl
        have HH0 := Lib.hid hh0
        clear hbt hh0
        go_wp2_with fail
        have BB := Blk.new wo 67 #[.int .i64 (b.toNat : Int), .int .i64 0, .int .i64 0]
        have OB := (On.refl wo).alloc (.cells #[.int .i64 (b.toNat : Int), .int .i64 0, .int .i64 0] 67)
        generalize hB : wo.heap.size = B at *
        generalize wo.alloc (.cells #[.int .i64 (b.toNat : Int), .int .i64 0, .int .i64 0] 67) = w1 at *
        have HB := Lib.hid hB
        clear hB
        have hmn : (if (a : Int) < 250 then (a : Int) else 250) = ((min 250 a : Nat) : Int) := by split <;> omega
        have hm1 : min 250 a ≤ 250 := by omega
        have hm2 : min 250 a ≤ a := by omega
        have hts := toks_step t a (by rw [HTL.out]; exact hlt)
        have HTS := Lib.hid hts
        clear hts
        generalize min 250 a = m at *
        go_loopw [6] (fun x wr => ∃ j : Nat, x = .int .i64 ((j : Int) + 1) ∧ j ≤ m ∧ Blk wr B 67 (tokArr (held t a j)) ∧ Kp [B] w1 wr) (fun x _ => 251 - (intOf x).toNat)
        case atStart => exact ⟨0, rfl, by omega, by rw [HH0.out]; exact BB, Kp.refl _ _⟩
        case round =>
          obtain ⟨j, rfl, hj, hblk, K⟩ := hrel
          have hst := held_step t a j
          by_cases hjl : j < m
          · have hj1 : (j : Int) + 1 ≤ m := by omega
            have hj2 : (j : Int) + 1 ≤ a := by omega
            obtain ⟨wp, hwp⟩ : ∃ wp : World, wp = wr := ⟨_, rfl⟩
            subst hwp
            obtain ⟨x0, L, z0, hd2, hL⟩ := held_form t a j
            rw [hd2] at hblk hst
            have HST := Lib.hid hst
            clear hst hd2
            go_wp2_with fail
            go_loopw [7] (fun x wr => ∃ n : Nat, x = .int .i64 (n : Int) ∧ n ≤ 60 ∧ RowKit.Hid (n + run t (a + n) (a + n - (j + 1)) (60 - n) = mlen t a (j + 1)) ∧ On wp wr) (fun x _ => 60 - (intOf x).toNat)
            case atStart => exact ⟨0, rfl, by omega, Lib.hid (by simp [mlen]), On.refl _⟩
            case round =>
              obtain ⟨n, rfl, hn, hrun, O3⟩ := hrel
              have q1 : IntKind.i64.wrap ((a : Int) + (n : Int)) = ((a + n : Nat) : Int) := by rw [IntKind.wrap_i64]; omega
              have q2 : IntKind.i64.wrap (((a + n : Nat) : Int) - ((j : Int) + 1)) = ((a + n - (j + 1) : Nat) : Int) := by rw [IntKind.wrap_i64]; omega
              have hq : a + n - (j + 1) < a + n := by omega
              have hq2 : a + n ≤ 400 := by omega
              have hcont : n < 60 ∧ a + n < t.length ∧ t[a + n]? = t[a + n - (j + 1)]? ∨ ¬ (n < 60 ∧ a + n < t.length ∧ t[a + n]? = t[a + n - (j + 1)]?) := Classical.em _
              have hgo := run_step hrun.out (by omega) (by omega)
              have hend := run_stop hrun.out
              generalize hp : a + n = p at hcont hend q1 q2 hq hq2
              generalize hpq : p - (j + 1) = q at hcont hend q2 hq
              rw [hp, hpq] at hgo
              have HP := Lib.hid hp
              have HPQ := Lib.hid hpq
              have HGO := Lib.hid hgo
              have HEND := Lib.hid hend
              clear hp hpq hgo hend hrun
              rcases hcont with hc | hc
              · have hx2 := Lib.hid (HGO.out hc)
                have hc1 : (n : Int) < 60 := by have := hc.1; omega
                have hps : p < s.size := by have := hc.2.1; rw [HTL.out] at this; exact this
                have hqs : q < s.size := by omega
                have hxy : s[p] = s[q] := by
                  have := hc.2.2
                  rw [HAT.out p hps, HAT.out q hqs] at this
                  exact UInt8.toNat_inj.1 (Option.some.inj this)
                have hps' : (p : Int) < s.size := by omega
                have hqs' : (q : Int) < s.size := by omega
                have hb : (((s[p]).toNat : Int) == ((s[q]).toNat : Int)) = true := by rw [hxy]; simp
                clear hc hxy
                generalize hx : s[p] = x at *
                generalize hy : s[q] = y at *
                go_wp2_with fail
                go_quiet (fail)
                go_wp2_with fail
                exact ⟨⟨n + 1, by go_num, by omega, hx2, O3.drewN _⟩, by simp [intOf]; omega⟩
              · have hx2 := HEND.out hc
                have hstop : decide ((n : Int) < 60) = false ∨ (decide ((n : Int) < 60) = true ∧ decide (p < s.size) = false) ∨
                    (decide ((n : Int) < 60) = true ∧ decide (p < s.size) = true ∧ decide (q < s.size) = true ∧ ∃ (hp : p < s.size) (hq : q < s.size), (((s[p]).toNat : Int) == ((s[q]).toNat : Int)) = false) := by
                  by_cases h1 : n < 60
                  · by_cases h2 : p < s.size
                    · refine .inr (.inr ⟨by simp; omega, by simp; omega, by simp; omega, h2, by omega, ?_⟩)
                      rw [beq_eq_false_iff_ne]
                      intro e
                      apply hc
                      refine ⟨h1, by rw [HTL.out]; exact h2, ?_⟩
                      rw [HAT.out p h2, HAT.out q (by omega)]
                      congr 1; omega
                    · exact .inr (.inl ⟨by simp; omega, by simp; omega⟩)
                  · exact .inl (by simp; omega)
                have b1 := O3.blk hblk
                have KK := K.then (Kp.of [B] O3)
                have c1 : wr.cell? ⟨B, 1, none⟩ = some (.int .i64 (L : Int)) := (b1.cell 1).trans rfl
                have cf : ∀ i, wr.frozen? ⟨B, i, none⟩ = false := b1.frozen
                have c0 : wr.cell? ⟨B, 0, none⟩ = some (.int .i64 x0) := (b1.cell 0).trans rfl
                have c2 : wr.cell? ⟨B, 2, none⟩ = some (.int .i64 z0) := (b1.cell 2).trans rfl
                have HX2 := Lib.hid hx2
                clear hc hx2
                rcases hstop with h | ⟨h1, h2⟩ | ⟨h1, h2, h3, hp, hq, h4⟩
                · go_wp2_with fail
                  go_quiet (fail)
                  by_cases h3 : 3 ≤ n
                  · have h3' : (3 : Int) ≤ n := by omega
                    by_cases hLn : L < n
                    · have hLn' : (L : Int) < n := by omega
                      go_wp2_with fail
                      refine ⟨⟨j + 1, by go_num, by omega, ?_, ?_⟩, by simp [intOf]; omega⟩
                      · rw [HST.out, ← HX2.out, if_pos ⟨h3, hLn'⟩]
                        exact (((b1.drewN nq).set 0 _).set 1 _).set 2 _
                      · exact (((KK.drewN nq).set (.inl (by simp)) _).set (.inl (by simp)) _).set (.inl (by simp)) _
                    · have hLn' : ¬ (L : Int) < n := by omega
                      go_wp2_with fail
                      refine ⟨⟨j + 1, by go_num, by omega, ?_, KK.drewN nq⟩, by simp [intOf]; omega⟩
                      rw [HST.out, ← HX2.out, if_neg (fun h => hLn' h.2)]
                      exact b1.drewN nq
                  · have h3' : ¬ (3 : Int) ≤ n := by omega
                    go_wp2_with fail
                    refine ⟨⟨j + 1, by go_num, by omega, ?_, KK.drewN nq⟩, by simp [intOf]; omega⟩
                    rw [HST.out, ← HX2.out, if_neg (fun h => h3 h.1)]
                    exact b1.drewN nq
                · go_wp2_with fail
                  go_quiet (fail)
                  by_cases h3 : 3 ≤ n
                  · have h3' : (3 : Int) ≤ n := by omega
                    by_cases hLn : L < n
                    · have hLn' : (L : Int) < n := by omega
                      go_wp2_with fail
                      refine ⟨⟨j + 1, by go_num, by omega, ?_, ?_⟩, by simp [intOf]; omega⟩
                      · rw [HST.out, ← HX2.out, if_pos ⟨h3, hLn'⟩]
                        exact (((b1.drewN nq).set 0 _).set 1 _).set 2 _
                      · exact (((KK.drewN nq).set (.inl (by simp)) _).set (.inl (by simp)) _).set (.inl (by simp)) _
                    · have hLn' : ¬ (L : Int) < n := by omega
                      go_wp2_with fail
                      refine ⟨⟨j + 1, by go_num, by omega, ?_, KK.drewN nq⟩, by simp [intOf]; omega⟩
                      rw [HST.out, ← HX2.out, if_neg (fun h => hLn' h.2)]
                      exact b1.drewN nq
                  · have h3' : ¬ (3 : Int) ≤ n := by omega
                    go_wp2_with fail
                    refine ⟨⟨j + 1, by go_num, by omega, ?_, KK.drewN nq⟩, by simp [intOf]; omega⟩
                    rw [HST.out, ← HX2.out, if_neg (fun h => h3 h.1)]
                    exact b1.drewN nq
                · generalize hx : s[p] = x at *
                  generalize hy : s[q] = y at *
                  go_wp2_with fail
                  go_quiet (fail)
                  by_cases h3 : 3 ≤ n
                  · have h3' : (3 : Int) ≤ n := by omega
                    by_cases hLn : L < n
                    · have hLn' : (L : Int) < n := by omega
                      go_wp2_with fail
                      refine ⟨⟨j + 1, by go_num, by omega, ?_, ?_⟩, by simp [intOf]; omega⟩
                      · rw [HST.out, ← HX2.out, if_pos ⟨h3, hLn'⟩]
                        exact (((b1.drewN nq).set 0 _).set 1 _).set 2 _
                      · exact (((KK.drewN nq).set (.inl (by simp)) _).set (.inl (by simp)) _).set (.inl (by simp)) _
                    · have hLn' : ¬ (L : Int) < n := by omega
                      go_wp2_with fail
                      refine ⟨⟨j + 1, by go_num, by omega, ?_, KK.drewN nq⟩, by simp [intOf]; omega⟩
                      rw [HST.out, ← HX2.out, if_neg (fun h => hLn' h.2)]
                      exact b1.drewN nq
                  · have h3' : ¬ (3 : Int) ≤ n := by omega
                    go_wp2_with fail
                    refine ⟨⟨j + 1, by go_num, by omega, ?_, KK.drewN nq⟩, by simp [intOf]; omega⟩
                    rw [HST.out, ← HX2.out, if_neg (fun h => h3 h.1)]
                    exact b1.drewN nq
          · obtain rfl : j = m := by omega
            obtain ⟨x0, L, z0, hd2, hL⟩ := held_form t a j
            have HD := Lib.hid hd2
            rw [hd2] at hblk
            have c0 : wr.cell? ⟨B, 0, none⟩ = some (.int .i64 x0) := (hblk.cell 0).trans rfl
            have c1 : wr.cell? ⟨B, 1, none⟩ = some (.int .i64 (L : Int)) := (hblk.cell 1).trans rfl
            have c2 : wr.cell? ⟨B, 2, none⟩ = some (.int .i64 z0) := (hblk.cell 2).trans rfl
            have hne : ∀ k, u3.ownBlock = some k → k ≠ B := fun k hk => by have := (hown.own.lt k hk).2; rw [← HB.out]; omega
            have hown2 : Own w.heap.size wr 67 3 u3 done.length (tokCells done) := ⟨K.owns (own_on hown.own OB) (fun k hk => by simpa using hne k hk), hown.nn⟩
            have O2 : On w wr := K.on (O.call OB) (fun x hx => by simp at hx; rw [hx, ← HB.out]; exact O.size)
            have hneB : u3.ownBlock ≠ some B := fun h => hne B h rfl
            have HNB := Lib.hid hneB
            obtain ⟨i0, hi, hz0, hz1, hz2⟩ := info_parts tokinfo
            have hmx : (if (L : Int) < 1 then (1 : Int) else L) = ((max L 1 : Nat) : Int) := by split <;> omega
            have hdl : done.length ≤ 300 := by omega
            clear hd2 hst hne hown hneB hjl
            go_wp2_with (at_builtin; go_must (refine wpList_app rfl _ _ 64 rfl w i0 (.agg #[.int .i64 0, .int .i64 0, .int .i64 0]) 24 3 Tryd.underlying64 hi hz0 hz1 hz2 rfl (by decide) rfl _ _ _ rfl hown2 O2 rfl (by simp [Value.oneCell']) (by unfold maxLen; omega) (by omega) ?_); intro v' w2 hown' O' hk; have b2 := hk B _ _ hblk HNB.out; have d1 : w2.cell? ⟨B, 1, none⟩ = some (.int .i64 (L : Int)) := (b2.cell 1).trans rfl)
            obtain ⟨ht1, ht2⟩ := HTS.out
            have hTl := hT.out
            rw [HD.out] at ht1 ht2
            simp only [Int.toNat_natCast] at ht1 ht2
            go_roundw
            case rel =>
              refine ⟨a + max L 1, done ++ [⟨x0, (L : Int), z0⟩], by go_num, by rw [HTL.out] at ht2; exact ht2, by rw [List.length_append, List.length_singleton]; omega, Lib.hid (by rw [hTl, ht1, List.append_assoc]; rfl), ?_, O'⟩
              rw [List.length_append, List.length_singleton, tokCells_snoc]
              exact hown'
            case measure => simp [intOf]; omega
      · obtain rfl : a = s.size := by omega
        have hT2 := hT.out
        rw [toks_end t _ (by rw [HTL.out]; exact Nat.le_refl _), List.append_nil] at hT2
        have HT2 := Lib.hid hT2
        obtain ⟨g, cap, rfl, hg, R, hn1, hcap, hlen⟩ := hown.parts
        clear hT2
        go_wp2_with fail
        go_ret
        refine ⟨g, cap, ?_, ?_, ?_, hcap, hg, O⟩
        · rw [HT.out, HT2.out]; rfl
        · rw [HT.out, HT2.out]; exact R
        · rw [HT.out, HT2.out]; exact hn1
  · have hs' : (300 : Int) < s.size := by omega
    have ht : toksOf s = [] := by unfold toksOf; rw [if_neg hs]
    have HT := Lib.hid ht
    clear ht
    go_enter Tryd.func59, Tryd.ntmps59
    go_wp2_with fail
    go_ret
    exact ⟨w.heap.size, 0, by rw [HT.out]; rfl, by rw [HT.out]; exact Row.of (Blk.new w 67 #[]), by rw [HT.out]; exact Nat.le_refl _, Nat.zero_le _, Nat.le_refl _, (On.refl w).alloc _⟩
end Go.Proofs.YtncidljdfipigaaDoor.Wi

/- Tokens as they are written by two codes, in the program. Conditions: the codes have all symbols; sizes. -/
namespace Go.Proofs.YtncidljdfipigaaDoor.Wi
open Go.RowKit Go.Proofs.YtncidljdfipigaaDoor.Mem Go.Proofs.YtncidljdfipigaaDoor.Bt Go.Proofs.YtncidljdfipigaaDoor.Cd Go.Proofs.YtncidljdfipigaaDoor.De Go.Proofs.YtncidljdfipigaaDoor.En Go.Proofs.YtncidljdfipigaaDoor.Lz
set_option linter.unusedVariables false
set_option linter.unusedSimpArgs false
theorem IW.lt {w : World} {g r : Nat} {bs : List Bool} (h : IW w g r bs) (hne : bs ≠ []) : r < w.heap.size := by
  obtain ⟨v, hb, hy, _⟩ := h.out
  have : pack bs ≠ [] := by
    intro e
    have := pack_length bs
    rw [e] at this
    have := List.length_pos_iff.2 hne
    simp at *; omega
  obtain ⟨_, _, _, _, R⟩ := hy.parts this
  exact R.lt
theorem SW.glt {w : World} {g r : Nat} {bs : List Bool} (h : SW w g r bs) : g < w.heap.size := by obtain ⟨v, hb, _⟩ := h.out; exact hb.lt
theorem IW.glt {w : World} {g r : Nat} {bs : List Bool} (h : IW w g r bs) : g < w.heap.size := by obtain ⟨v, hb, _⟩ := h.out; exact hb.lt
theorem tok_get {l : List Tok} {k : Nat} (hk : k < l.length) : (tokCells l)[k * 3]? = some (.int .i64 l[k].byte) ∧ (tokCells l)[k * 3 + 1]? = some (.int .i64 l[k].long) ∧ (tokCells l)[k * 3 + 2]? = some (.int .i64 l[k].back) := by
  induction l generalizing k with
  | nil => simp at hk
  | cons t l ih =>
    have e : tokCells (t :: l) = (tokArr t).toList ++ tokCells l := by simp [tokCells]
    rw [e]
    cases k with
    | zero => exact ⟨rfl, rfl, rfl⟩
    | succ k =>
      have h3 : (tokArr t).toList.length = 3 := rfl
      have := ih (k := k) (by simpa using hk)
      refine ⟨?_, ?_, ?_⟩
      · rw [List.getElem?_append_right (by omega), h3, show (k + 1) * 3 - 3 = k * 3 from by omega]; exact this.1
      · rw [List.getElem?_append_right (by omega), h3, show (k + 1) * 3 + 1 - 3 = k * 3 + 1 from by omega]; exact this.2.1
      · rw [List.getElem?_append_right (by omega), h3, show (k + 1) * 3 + 2 - 3 = k * 3 + 2 from by omega]; exact this.2.2
/-- What is written of a token: codes short enough. -/
structure Fine (lit dist : List Nat) (t : Tok) : Prop where
  byte : t.long = 0 → 0 ≤ t.byte ∧ t.byte ≤ 255
  long : t.long ≠ 0 → 3 ≤ t.long ∧ t.long ≤ 60 ∧ 1 ≤ t.back ∧ t.back ≤ 250
theorem fine_of {lit dist : List Nat} {l : List Tok} {out o : List Nat} (h : text out l = some o) : ∀ t ∈ l, Fine lit dist t := fun t ht => by
  obtain ⟨o1, o2, ha⟩ := text_adds l out o h t ht
  refine ⟨fun h0 => ?_, fun h0 => ?_⟩
  · have := add_byte ha h0; exact ⟨this.2.1, this.2.2.1⟩
  · have := add_long ha h0; exact this.2
theorem enc_length (lens : List Nat) (h15 : ∀ x ∈ lens, x ≤ 15) (s : Nat) : (enc lens s).length ≤ 15 := by
  unfold enc; rw [List.length_reverse, bits_length]; exact getD_le h15 s
theorem encTok_le {lit dist : List Nat} {t : Tok} (F : Fine lit dist t) (l15 : ∀ x ∈ lit, x ≤ 15) (d15 : ∀ x ∈ dist, x ≤ 15) : (encTok lit dist t).length ≤ 50 := by
  unfold encTok
  split
  · have := enc_length lit l15 t.byte.toNat; omega
  · rename_i h
    obtain ⟨l3, l60, k1, k250⟩ := F.long h
    obtain ⟨a1, a2, a3, a4⟩ := lad_long t.long.toNat (by omega) (by omega)
    obtain ⟨c1, c2, c3, c4⟩ := lad_back t.back.toNat (by omega) (by omega)
    have := enc_length lit l15 (257 + lad longBase t.long.toNat)
    have := enc_length dist d15 (lad backBase t.back.toNat)
    simp only [List.length_append, bits_length]
    omega
theorem flat_le {lit dist : List Nat} {l : List Tok} (F : ∀ t ∈ l, Fine lit dist t) (l15 : ∀ x ∈ lit, x ≤ 15) (d15 : ∀ x ∈ dist, x ≤ 15) : ∀ k, ((l.take k).flatMap (encTok lit dist)).length ≤ 50 * k := by
  intro k
  induction k with
  | zero => simp
  | succ k ih =>
    by_cases h : k < l.length
    · rw [List.take_succ_eq_append_getElem h, List.flatMap_append, List.length_append]
      have := encTok_le (F _ (List.getElem_mem h)) l15 d15
      simp only [List.flatMap_cons, List.flatMap_nil, List.append_nil]
      omega
    · rw [List.take_of_length_le (by omega)]
      rw [List.take_of_length_le (by omega)] at ih
      omega
theorem Mv.out {g r q r' : Nat} {w w' : World} (M : Mv g r w r' w') (hq : q < w.heap.size) (h : q ∉ [g, r]) : q ∉ [g, r'] := by
  simp only [List.mem_cons, List.not_mem_nil, or_false, not_or] at h ⊢
  rcases M.at_ with e | e <;> omega
theorem not_in {q g r : Nat} (h1 : q ≠ g) (h2 : q ≠ r) : q ∉ [g, r] := by simp [h1, h2]
theorem field_fst (x y : Value) (w : World) : (Instr.field 69 (.agg #[x, y]) 0).run Tryd.prog w = .ok x w := by kernel_rfl
theorem field_snd (x y : Value) (w : World) : (Instr.field 69 (.agg #[x, y]) 1).run Tryd.prog w = .ok y w := by kernel_rfl
set_option maxRecDepth 100000 in
set_option maxHeartbeats 2000000 in
theorem itokens_calls (g r q n cap gl ol nl cl gd od nd cd : Nat) (bs : List Bool) (l : List Tok) (lit dist : List Nat) (w : World) (hw : IW w g r bs) (hne : bs ≠ []) (hb : bs.length ≤ 100000)
    (hq : Row w q 67 (tokCells l)) (hl : RowO w gl ol 3 (i64s lit)) (hd : RowO w gd od 3 (i64s dist)) (hn : l.length = n) (hn2 : n ≤ 1000) (hnc : n ≤ cap) (hnl : lit.length = nl) (hnd : dist.length = nd) (hnlc : nl ≤ cl) (hndc : nd ≤ cd)
    (hnl2 : nl ≤ 1000) (hnd2 : nd ≤ 1000) (H : Has lit dist l) (F : ∀ t ∈ l, Fine lit dist t) (fq : q ∉ [g, r]) (fl : gl ∉ [g, r]) (fd : gd ∉ [g, r]) :
    Calls Tryd.prog 58 #[.pointer (some ⟨g, 0, none⟩), .slice (some ⟨q, 0, none⟩) n cap, .slice (some ⟨gl, ol, none⟩) nl cl, .slice (some ⟨gd, od, none⟩) nd cd] w fun e w' => ∃ r', e = .returned (.tuple #[]) ∧ IW w' g r' (bs ++ encToks lit dist l) ∧ Mv g r w r' w' := by
  have HN := Lib.hid hn
  have HNL := Lib.hid hnl
  have HND := Lib.hid hnd
  have HF := Lib.hid F
  have HH := Lib.hid H
  have HW := Lib.hid hw
  have hr := hw.lt hne
  have hg := hw.glt
  have FQ := Lib.hid fq
  have FL := Lib.hid fl
  have FD := Lib.hid fd
  clear hn hnl hnd F H hw fq fl fd
  go_enter Tryd.func58, Tryd.ntmps58
  go_wp2_with fail
  refine (icodes_calls lit gl ol nl cl w hl HNL.out hnl2 hnlc).mono ?_
  rintro e w1 ⟨ra, ca, rfl, Na, ha1, ha2, O1⟩
  rw [codes_length, HNL.out] at Na ⊢
  go_wp2_with fail
  refine (icodes_calls dist gd od nd cd w1 (hd.on O1) HND.out hnd2 hndc).mono ?_
  rintro e w2 ⟨rb, cb, rfl, Nb, hb1, hb2, O2⟩
  rw [codes_length, HND.out] at Nb ⊢
  have Ra := (Na.on O2).row.1.toO
  have Rb := Nb.row.1.toO
  have OW := O1.call O2
  have hq2 := hq.on OW
  have hl2 := hl.on OW
  have hd2 := hd.on OW
  have hs1 := O1.size
  have hw2 : RowKit.Hid (IW w2 g r bs) := Lib.hid (HW.out.on OW)
  have FA : RowKit.Hid (ra ∉ [g, r]) := Lib.hid (not_in (by omega) (by omega))
  have FB : RowKit.Hid (rb ∉ [g, r]) := Lib.hid (not_in (by omega) (by omega))
  clear Na Nb
  go_wp2_with fail
  go_loopw [19] (fun x wr => ∃ (k r' : Nat), x = .int .i64 (k : Int) ∧ k ≤ n ∧ IW wr g r' (bs ++ (l.take k).flatMap (encTok lit dist)) ∧ Mv g r w2 r' wr) (fun x _ => n - (intOf x).toNat)
  case atStart => exact ⟨0, r, rfl, by omega, by simpa using hw2.out, Mv.refl _ _ _⟩
  case round =>
    obtain ⟨k, r', rfl, hk, hwr, M⟩ := hrel
    by_cases hlt : k < n
    · have hkl : k < l.length := by rw [HN.out]; exact hlt
      obtain ⟨t0, t1, t2⟩ := tok_get hkl
      have hstep : (l.take (k + 1)).flatMap (encTok lit dist) = (l.take k).flatMap (encTok lit dist) ++ encTok lit dist l[k] := by
        rw [List.take_succ_eq_append_getElem hkl, List.flatMap_append]; simp
      have Ft := HF.out _ (List.getElem_mem hkl)
      have Hby := HH.out.byte _ (List.getElem_mem hkl)
      have Hlo := HH.out.long _ (List.getElem_mem hkl)
      have Hba := HH.out.back _ (List.getElem_mem hkl)
      have hfl := flat_le HF.out HH.out.l15 HH.out.d15 k
      have R := M.kp.row hq2 FQ.out
      have c0 := R.cell t0
      have c1 := R.cell t1
      have c2 := R.cell t2
      have hbl : (bs ++ (l.take k).flatMap (encTok lit dist)).length ≤ 200000 := by rw [List.length_append]; omega
      have hst2 : bs ++ (l.take (k + 1)).flatMap (encTok lit dist) = (bs ++ (l.take k).flatMap (encTok lit dist)) ++ encTok lit dist l[k] := by rw [hstep, List.append_assoc]
      generalize l[k] = t at *
      generalize hbk : bs ++ (l.take k).flatMap (encTok lit dist) = bk at *
      have hbne : bk ≠ [] := by rw [← hbk]; simp [hne]
      have HNE := Lib.hid hbne
      have HST := Lib.hid hst2
      clear hbk hbne t0 t1 t2 hstep hst2
      obtain ⟨tb, tl, tk⟩ := t
      simp only at c0 c1 c2 Ft Hby Hlo Hba
      by_cases h0 : tl = 0
      · subst h0
        have hbyte := Ft.byte rfl
        obtain ⟨b, rfl⟩ := Int.eq_ofNat_of_zero_le hbyte.1
        have Hb1 := Hby rfl
        have hbn : ((b : Int)).toNat = b := by omega
        simp only [Int.ofNat_eq_natCast, hbn] at Hb1
        have hlt1 := lt_of_getD Hb1
        have hcl := code_lt HH.out.fl hlt1 Hb1 (getD_le HH.out.l15 b)
        have hen : encTok lit dist ⟨(b : Int), 0, tk⟩ = enc lit b := by unfold encTok; rw [if_pos rfl]; rfl
        have HEN := Lib.hid hen
        have h15 := getD_le HH.out.l15 b
        have OA := (On.refl wr).alloc (.cells #[.int .i64 (b : Int), .int .i64 0, .int .i64 tk] 67)
        have hc := code_calls g r' bk lit gl ol nl cl ra nl ca b _ (hwr.on OA) (by omega) ((hl2.kp M.kp FL.out).on OA) ((Ra.kp M.kp FA.out).on OA) HNL.out rfl hlt1 h15 hcl (M.out hl2.lt FL.out) (M.out Ra.lt FA.out)
        have HC := Lib.hid hc
        clear hen hc hbn Ft Hby Hlo Hba
        go_wp2_with fail
        refine HC.out.mono ?_
        rintro e w3 ⟨r3, rfl, hw3, M3⟩
        go_wp2_with fail
        refine ⟨⟨k + 1, r3, by go_num, by omega, ?_, M.trans ((mv_on g r' OA).trans M3)⟩, by simp [intOf]; omega⟩
        rw [HST.out, HEN.out]
        exact hw3
      · obtain ⟨l3, l60, k1, k250⟩ := Ft.long h0
        simp only at l3 l60 k1 k250
        have Hl1 := Hlo h0
        have Hb1 := Hba h0
        obtain ⟨tln, rfl⟩ := Int.eq_ofNat_of_zero_le (show 0 ≤ tl by omega)
        obtain ⟨tkn, rfl⟩ := Int.eq_ofNat_of_zero_le (show 0 ≤ tk by omega)
        have h0' : ((tln : Int) == 0) = false := by simp; omega
        have hen : encTok lit dist ⟨tb, (tln : Int), (tkn : Int)⟩ = enc lit (257 + lad longBase tln) ++ (bitsOf (tln - longBase.getD (lad longBase tln) 0) (longBits.getD (lad longBase tln) 0) ++ (enc dist (lad backBase tkn) ++ bitsOf (tkn - backBase.getD (lad backBase tkn) 0) (backBits.getD (lad backBase tkn) 0))) := by
          unfold encTok; rw [if_neg (by simp; omega)]; rfl
        have HEN := Lib.hid hen
        simp only [Int.ofNat_eq_natCast, Int.toNat_natCast] at *
        obtain ⟨a1, a2, a3, a4⟩ := lad_long tln (by omega) (by omega)
        obtain ⟨b1, b2, b3, b4⟩ := lad_back tkn (by omega) (by omega)
        clear hen Ft Hby Hlo Hba
        have OA := (On.refl wr).alloc (.cells #[.int .i64 tb, .int .i64 (tln : Int), .int .i64 (tkn : Int)] 67)
        have BA := Blk.new wr 67 #[.int .i64 tb, .int .i64 (tln : Int), .int .i64 (tkn : Int)]
        have hg1 := hwr.glt
        have hr1 := hwr.lt HNE.out
        have hwa := hwr.on OA
        have HWA := Lib.hid hwa
        have MA := M.trans (mv_on g r' OA)
        have hfL := fun r1 q1 r2 q2 W R1 h => find_calls longBase r1 28 q1 tln (.slice (some ⟨r2, 0, none⟩) 28 q2) W R1 (by decide) (by omega) h (by omega) (by show 3 ≤ tln; omega) long_rising (by omega) ⟨r2, q2, rfl⟩
        have hfB := fun r1 q1 r2 q2 W R1 h => find_calls backBase r1 30 q1 tkn (.slice (some ⟨r2, 0, none⟩) 30 q2) W R1 (by decide) (by omega) h (by omega) (by show 1 ≤ tkn; omega) back_rising (by omega) ⟨r2, q2, rfl⟩
        have hcL := fun W r3 (R : RowO W r3 0 3 (i64s longBase)) => R.cell (i64s_get (show lad longBase tln < longBase.length from a1))
        have hcLb := fun W r3 (R : RowO W r3 0 3 (i64s longBits)) => R.cell (i64s_get (show lad longBase tln < longBits.length from a1))
        have hcB := fun W r3 (R : RowO W r3 0 3 (i64s backBase)) => R.cell (i64s_get (show lad backBase tkn < backBase.length from b1))
        have hcBb := fun W r3 (R : RowO W r3 0 3 (i64s backBits)) => R.cell (i64s_get (show lad backBase tkn < backBits.length from b1))
        simp only [Nat.zero_add] at hcL hcLb hcB hcBb
        have hl1 := lt_of_getD Hl1
        have hd1 := lt_of_getD Hb1
        have hco1 := code_lt HH.out.fl hl1 Hl1 (getD_le HH.out.l15 _)
        have hco2 := code_lt HH.out.fd hd1 Hb1 (getD_le HH.out.d15 _)
        have h15a := getD_le HH.out.l15 (257 + lad longBase tln)
        have h15b := getD_le HH.out.d15 (lad backBase tkn)
        have HFL2 := Lib.hid hfL
        have HFB2 := Lib.hid hfB
        have HCL := Lib.hid hcL
        have HCLB := Lib.hid hcLb
        have HCB := Lib.hid hcB
        have HCBB := Lib.hid hcBb
        clear hfL hfB hcL hcLb hcB hcBb
        have ff1 := field_fst
        have ff2 := field_snd
        go_upto_region 6 with fail
        generalize hB : wr.heap.size = B at *
        have HB := Lib.hid hB
        clear hB
        generalize wr.alloc (.cells #[.int .i64 tb, .int .i64 (tln : Int), .int .i64 (tkn : Int)] 67) = wa at *
        have d1 : wa.cell? ⟨B, 1, none⟩ = some (.int .i64 (tln : Int)) := (BA.cell 1).trans rfl
        have d2 : wa.cell? ⟨B, 2, none⟩ = some (.int .i64 (tkn : Int)) := (BA.cell 2).trans rfl
        have hBw : B < wa.heap.size := BA.lt
        have FBB : RowKit.Hid (B ∉ [g, r']) := Lib.hid (not_in (by omega) (by omega))
        generalize lad longBase tln = kl at *
        generalize lad backBase tkn = kb at *
        generalize longBase.getD kl 0 = xl at *
        generalize longBits.getD kl 0 = yl at *
        generalize backBase.getD kb 0 = xb at *
        generalize backBits.getD kb 0 = yb at *
        generalize hdl : tln - xl = dl at *
        generalize hdb : tkn - xb = db at *
        have wl : IntKind.i64.wrap ((tln : Int) - (xl : Int)) = (dl : Int) := by rw [IntKind.wrap_i64]; omega
        have wb : IntKind.i64.wrap ((tkn : Int) - (xb : Int)) = (db : Int) := by rw [IntKind.wrap_i64]; omega
        have hdl2 : dl ≤ 60 := by omega
        have hdb2 : db ≤ 250 := by omega
        have HDLL := Lib.hid hdl
        have HDBB := Lib.hid hdb
        clear hdl hdb hwa hwr
        have hwa : RowKit.Hid (IW wa g r' bk) := by
          have := HWA.out
          exact Lib.hid this
        go_cut [12] (fun s12 wx => s12 = .int .i64 (kl : Int) ∧ On wa wx)
        case first =>
          have O0 := (On.refl wa).drew
          go_region_held3 (fun w' => w'.cell? ⟨B, 1, none⟩ = some (.int .i64 (tln : Int)))
            (first | go_keep | exact y1 | exact x1)
            (first
              | (go_at_call 61; refine (longs_calls _).mono ?_; rintro e w5 ⟨r1, q1, r2, q2, rfl, R1, R2, h1, h2, f1, f2, O5⟩; have OO := O0.call O5; have x1 : w5.cell? ⟨B, 1, none⟩ = some (.int .i64 (tln : Int)) := (OO.cell (by simpa using hBw)).trans d1)
              | (go_at_call 62; refine (HFL2.out r1 q1 r2 q2 w5 R1 h1).mono ?_; rintro e w6 ⟨rfl, O6⟩; have y1 : w6.cell? ⟨B, 1, none⟩ = some (.int .i64 (tln : Int)) := ((OO.call O6).cell (by simpa using hBw)).trans d1))
          go_wp2_with fail
          go_meet
          exact ⟨rfl, OO.call O6⟩
        case rest =>
          obtain ⟨rfl, OC⟩ := hcut
          have M5 := MA.trans (mv_on g r' OC)
          have hw5 := hwa.out.on OC
          have hc := code_calls g r' bk lit gl ol nl cl ra nl ca (257 + kl) wc hw5 (by omega) (hl2.kp M5.kp FL.out) (Ra.kp M5.kp FA.out) HNL.out rfl hl1 h15a hco1 (M5.out hl2.lt FL.out) (M5.out Ra.lt FA.out)
          rw [show (((257 + kl : Nat) : Int)) = 257 + (kl : Int) from by omega] at hc
          have HC := Lib.hid hc
          clear hc
          go_wp2_with fail
          refine HC.out.mono ?_
          rintro e w7 ⟨r7, rfl, hw7, M7⟩
          have M8 := M5.trans M7
          have hsz7 := Nat.le_trans OC.size M7.kp.size
          have e1 : w7.cell? ⟨B, 1, none⟩ = some (.int .i64 (tln : Int)) := (M7.kp.cell (Nat.lt_of_lt_of_le hBw OC.size) FBB.out).trans ((OC.cell hBw).trans d1)
          have e2 : w7.cell? ⟨B, 2, none⟩ = some (.int .i64 (tkn : Int)) := (M7.kp.cell (Nat.lt_of_lt_of_le hBw OC.size) FBB.out).trans ((OC.cell hBw).trans d2)
          have hBw7 : B < w7.heap.size := Nat.lt_of_lt_of_le hBw hsz7
          have FBw7 : RowKit.Hid (B ∉ [g, r7]) := Lib.hid (M7.out (Nat.lt_of_lt_of_le hBw OC.size) FBB.out)
          have hel := enc_length lit HH.out.l15 (257 + kl)
          have hbb : (bk ++ enc lit (257 + kl)).length ≤ 300000 := by rw [List.length_append]; omega
          have hp1 := fun W h => put_calls g r7 (bk ++ enc lit (257 + kl)) dl yl W h (by omega) (by omega) (by omega)
          have HW7 := Lib.hid hw7
          have HP1 := Lib.hid hp1
          have hgS := hw7.glt
          have hrS := M8.lt (Nat.lt_of_lt_of_le hr OW.size)
          clear hp1 hw7 hel
          generalize hbk2 : bk ++ enc lit (257 + kl) = bk2 at *
          have HBK2 := Lib.hid hbk2
          clear hbk2
          go_upto_region 8 with fail
          go_cut [12] (fun s12 wx => ∃ r4, s12 = .int .i64 (kl : Int) ∧ RowKit.Hid (IW wx g r4 (bk2 ++ bitsOf dl yl)) ∧ Mv g r7 w7 r4 wx)
          case first =>
            have kz : ((kl : Nat) : Int) < 28 := by omega
            have CE : ∀ W, Kp [g, r7] w7 W → W.cell? ⟨B, 1, none⟩ = some (.int .i64 (tln : Int)) := fun W h => (h.cell hBw7 FBw7.out).trans e1
            refine wp_region_held_drew (S := fun W => Kp [g, r7] w7 W) (by kernel_rfl) (Kp.refl _ _).drew (fun hHeld => ?_)
            refine wpAnyH_take (i := 0) (oi := _) (v := ?_) rfl (by kernel_rfl) (by kernel_rfl) (by kernel_rfl) (fun _ _ _ h => h) (Or.inl ⟨by rfl, ?_⟩) (by assumption) ?_
            rotate_left
            · intro w hSw
              go_simp
              first | done | with_reducible rfl
            try simp only [Act.put, List.setIfInBounds_toArray, List.set_cons_zero, List.set_cons_succ]
            refine wpAnyH_take (i := 1) (oi := _) (v := ?_) rfl (by kernel_rfl) (by kernel_rfl) (by kernel_rfl) (fun _ _ _ h => h) (Or.inl ⟨by rfl, ?_⟩) (by assumption) ?_
            rotate_left
            · intro w hSw
              go_simp
              first | done | with_reducible rfl
            try simp only [Act.put, List.setIfInBounds_toArray, List.set_cons_zero, List.set_cons_succ]
            refine wpAnyH_take (i := 2) (oi := _) (v := ?_) rfl (by kernel_rfl) (by kernel_rfl) (by kernel_rfl) (fun _ _ _ h => h) (Or.inl ⟨by rfl, ?_⟩) (by assumption) ?_
            rotate_left
            · intro w hSw
              go_simp
              first | done | with_reducible rfl
            try simp only [Act.put, List.setIfInBounds_toArray, List.set_cons_zero, List.set_cons_succ]
            refine wpAnyH_take (i := 5) (oi := _) (v := ?_) rfl (by kernel_rfl) (by kernel_rfl) (by kernel_rfl) (fun _ _ _ h => h) (Or.inl ⟨by rfl, ?_⟩) (by assumption) ?_
            rotate_left
            · intro w hSw
              go_simp
              first | done | with_reducible rfl
            try simp only [Act.put, List.setIfInBounds_toArray, List.set_cons_zero, List.set_cons_succ]
            refine wpAnyH_take (i := 11) (oi := _) (v := ?_) rfl (by kernel_rfl) (by kernel_rfl) (by kernel_rfl) (fun _ _ _ h => h) (Or.inl ⟨by rfl, ?_⟩) (by assumption) ?_
            rotate_left
            · intro w hSw
              go_simp
              first | done | with_reducible rfl
            try simp only [Act.put, List.setIfInBounds_toArray, List.set_cons_zero, List.set_cons_succ]
            refine wpAnyH_ready (rs := [3]) (by kernel_rfl) (by simp) ?_
            refine AllReadyH.cons (o := _) rfl (fun K hK => ?_) AllReadyH.nil
            go_simp
            refine (longs_calls _).mono ?_
            rintro e wA ⟨ra1, qa1, ra2, qa2, rfl, RA1, RA2, ha1', ha2', fa1, fa2, OA1⟩
            have KA := hHeld.then (Kp.of [g, r7] OA1)
            have CA : ∀ W, Kp [g, r7] wA W → W.cell? ⟨ra1, kl, none⟩ = some (.int .i64 (xl : Int)) := fun W h => (h.cell RA1.lt (show ra1 ∉ [g, r7] from not_in (by have := hHeld.size; omega) (by have := hHeld.size; omega))).trans (HCL.out wA ra1 RA1)
            refine hK.out _ _ KA (fun hHeld => ?_)
            clear hK K
            try simp only [Act.put, List.setIfInBounds_toArray, List.set_cons_zero, List.set_cons_succ]
            have CE2 : ∀ W, Kp [g, r7] wA W → W.cell? ⟨B, 1, none⟩ = some (.int .i64 (tln : Int)) := fun W h => CE W (KA.then h)
            refine wpAnyH_strong (S' := fun W => Kp [g, r7] wA W) (fun W h => KA.then h) ?_
            have hHeld2 : (fun W => Kp [g, r7] wA W) wA := Kp.refl _ _
            refine wpAnyH_take (i := 4) (oi := _) (v := ?_) rfl (by kernel_rfl) (by kernel_rfl) (by kernel_rfl) (fun _ _ _ h => h) (Or.inl ⟨by rfl, ?_⟩) (by assumption) ?_
            rotate_left
            · intro w hSw
              go_simp
              first | done | with_reducible rfl
            try simp only [Act.put, List.setIfInBounds_toArray, List.set_cons_zero, List.set_cons_succ]
            refine wpAnyH_take (i := 6) (oi := _) (v := ?_) rfl (by kernel_rfl) (by kernel_rfl) (by kernel_rfl) (fun _ _ _ h => h) (Or.inl ⟨by rfl, ?_⟩) (by assumption) ?_
            rotate_left
            · intro w hSw
              go_simp
              first | done | with_reducible rfl
            try simp only [Act.put, List.setIfInBounds_toArray, List.set_cons_zero, List.set_cons_succ]
            refine wpAnyH_take (i := 7) (oi := _) (v := ?_) rfl (by kernel_rfl) (by kernel_rfl) (by kernel_rfl) (fun _ _ _ h => h) (Or.inl ⟨by rfl, ?_⟩) (by assumption) ?_
            rotate_left
            · intro w hSw
              go_simp
              first | done | with_reducible rfl
            try simp only [Act.put, List.setIfInBounds_toArray, List.set_cons_zero, List.set_cons_succ]
            refine wpAnyH_take (i := 8) (oi := _) (v := ?_) rfl (by kernel_rfl) (by kernel_rfl) (by kernel_rfl) (fun _ _ _ h => h) (Or.inl ⟨by rfl, ?_⟩) (by assumption) ?_
            rotate_left
            · intro w hSw
              go_simp
              first | done | with_reducible rfl
            try simp only [Act.put, List.setIfInBounds_toArray, List.set_cons_zero, List.set_cons_succ]
            refine wpAnyH_ready (rs := [9]) (by kernel_rfl) (by simp) ?_
            refine AllReadyH.cons (o := _) rfl (fun K hK => ?_) AllReadyH.nil
            go_simp
            refine (longs_calls _).mono ?_
            rintro e wB ⟨rb1, qb1, rb2, qb2, rfl, RB1, RB2, hb1', hb2', fb1, fb2, OB1⟩
            have KB := Kp.of [g, r7] OB1
            have CB : ∀ W, Kp [g, r7] wB W → W.cell? ⟨rb2, kl, none⟩ = some (.int .i64 (yl : Int)) := fun W h => (h.cell RB2.lt (show rb2 ∉ [g, r7] from not_in (by have := KA.size; omega) (by have := KA.size; omega))).trans (HCLB.out wB rb2 RB2)
            refine hK.out _ _ KB (fun hHeld => ?_)
            clear hK K
            try simp only [Act.put, List.setIfInBounds_toArray, List.set_cons_zero, List.set_cons_succ]
            refine wpAnyH_strong (S' := fun W => Kp [g, r7] wB W) (fun W h => KB.then h) ?_
            have hHeld3 : (fun W => Kp [g, r7] wB W) wB := Kp.refl _ _
            refine wpAnyH_take (i := 10) (oi := _) (v := ?_) rfl (by kernel_rfl) (by kernel_rfl) (by kernel_rfl) (fun _ _ _ h => h) (Or.inl ⟨by rfl, ?_⟩) (by assumption) ?_
            rotate_left
            · intro w hSw
              go_simp
              first | done | with_reducible rfl
            try simp only [Act.put, List.setIfInBounds_toArray, List.set_cons_zero, List.set_cons_succ]
            refine wpAnyH_take (i := 12) (oi := _) (v := ?_) rfl (by kernel_rfl) (by kernel_rfl) (by kernel_rfl) (fun _ _ _ h => h) (Or.inl ⟨by rfl, ?_⟩) (by assumption) ?_
            rotate_left
            · intro w hSw
              go_simp
              first | done | with_reducible rfl
            try simp only [Act.put, List.setIfInBounds_toArray, List.set_cons_zero, List.set_cons_succ]
            refine wpAnyH_take (i := 13) (oi := _) (v := ?_) rfl (by kernel_rfl) (by kernel_rfl) (by kernel_rfl) (fun _ _ _ h => h) (Or.inl ⟨by rfl, ?_⟩) (by assumption) ?_
            rotate_left
            · intro w hSw
              go_simp
              first | done | with_reducible rfl
            try simp only [Act.put, List.setIfInBounds_toArray, List.set_cons_zero, List.set_cons_succ]
            refine wpAnyH_ready (rs := [14]) (by kernel_rfl) (by simp) ?_
            refine AllReadyH.cons (o := _) rfl (fun K hK => ?_) AllReadyH.nil
            go_simp
            refine (HP1.out _ (HW7.out.on ((On.refl w7).drew.call OA1 |>.call OB1))).mono ?_
            rintro e w6 ⟨r6, rfl, hw6, M6⟩
            refine hK.out _ _ M6.kp (fun hHeld => ?_)
            clear hK K
            try simp only [Act.put, List.setIfInBounds_toArray, List.set_cons_zero, List.set_cons_succ]
            refine wpAnyH_done (by kernel_rfl) ?_ _
            have OO2 := ((On.refl w7).drew.call OA1).call OB1
            go_wp2_with fail
            go_meet
            exact ⟨r6, rfl, Lib.hid hw6, (mv_on g r7 OO2).trans M6⟩
          case rest =>
            obtain ⟨r4, rfl, HW4, M4⟩ := hcut
            have M9 := M8.trans M4
            have hsz9 := M4.kp.size
            have g2 : wc.cell? ⟨B, 2, none⟩ = some (.int .i64 (tkn : Int)) := (M4.kp.cell hBw7 FBw7.out).trans e2
            have hBwc : B < wc.heap.size := Nat.lt_of_lt_of_le hBw7 hsz9
            have FBwc : RowKit.Hid (B ∉ [g, r4]) := Lib.hid (M4.out hBw7 FBw7.out)
            obtain ⟨w9, hw9⟩ : ∃ w9 : World, w9 = wc := ⟨_, rfl⟩
            subst hw9
            go_upto_region 9 with fail
            go_cut [12] (fun s12 wx => s12 = .int .i64 (kb : Int) ∧ On w9 wx)
            case first =>
              have O0 := (On.refl w9).drew
              go_region_held3 (fun w' => w'.cell? ⟨B, 2, none⟩ = some (.int .i64 (tkn : Int)))
                (first | go_keep | exact y1 | exact x1)
                (first
                  | (go_at_call 63; refine (backs_calls _).mono ?_; rintro e w5 ⟨r1, q1, r2, q2, rfl, R1, R2, h1, h2, f1, f2, O5⟩; have OO := O0.call O5; have x1 : w5.cell? ⟨B, 2, none⟩ = some (.int .i64 (tkn : Int)) := (OO.cell (by simpa using hBwc)).trans g2)
                  | (go_at_call 62; refine (HFB2.out r1 q1 r2 q2 w5 R1 h1).mono ?_; rintro e w6 ⟨rfl, O6⟩; have y1 : w6.cell? ⟨B, 2, none⟩ = some (.int .i64 (tkn : Int)) := ((OO.call O6).cell (by simpa using hBwc)).trans g2))
              go_wp2_with fail
              go_meet
              exact ⟨rfl, OO.call O6⟩
            case rest =>
              obtain ⟨rfl, OC⟩ := hcut
              have M10 := M9.trans (mv_on g r4 OC)
              have hwX := HW4.out.on OC
              have hbb3 : (bk2 ++ bitsOf dl yl).length ≤ 400000 := by rw [List.length_append, bits_length]; omega
              have hc := code_calls g r4 (bk2 ++ bitsOf dl yl) dist gd od nd cd rb nd cb kb wc hwX (by omega) (hd2.kp M10.kp FD.out) (Rb.kp M10.kp FB.out) HND.out rfl hd1 h15b hco2 (M10.out hd2.lt FD.out) (M10.out Rb.lt FB.out)
              have HC2 := Lib.hid hc
              clear hc
              go_wp2_with fail
              refine HC2.out.mono ?_
              rintro e w11 ⟨r11, rfl, hw11, M11⟩
              have M12 := M10.trans M11
              have i2 : w11.cell? ⟨B, 2, none⟩ = some (.int .i64 (tkn : Int)) := (M11.kp.cell (Nat.lt_of_lt_of_le hBwc OC.size) FBwc.out).trans ((OC.cell hBwc).trans g2)
              have hBw11 : B < w11.heap.size := Nat.lt_of_lt_of_le hBwc (Nat.le_trans OC.size M11.kp.size)
              have FBw11 : RowKit.Hid (B ∉ [g, r11]) := Lib.hid (M11.out (Nat.lt_of_lt_of_le hBwc OC.size) FBwc.out)
              have hel := enc_length dist HH.out.d15 kb
              have hbb4 : (bk2 ++ bitsOf dl yl ++ enc dist kb).length ≤ 500000 := by rw [List.length_append]; omega
              have hp2 := fun W h => put_calls g r11 (bk2 ++ bitsOf dl yl ++ enc dist kb) db yb W h (by omega) (by omega) (by omega)
              have HW11 := Lib.hid hw11
              have HP2 := Lib.hid hp2
              have hgS := hw11.glt
              have hrS := M12.lt (Nat.lt_of_lt_of_le hr OW.size)
              clear hp2 hw11 hel
              generalize hbk3 : bk2 ++ bitsOf dl yl ++ enc dist kb = bk3 at *
              have HBK3 := Lib.hid hbk3
              clear hbk3
              go_upto_region 11 with fail
              have kz : ((kb : Nat) : Int) < 30 := by omega
              have CE : ∀ W, Kp [g, r11] w11 W → W.cell? ⟨B, 2, none⟩ = some (.int .i64 (tkn : Int)) := fun W h => (h.cell hBw11 FBw11.out).trans i2
              refine wp_region_held_drew (S := fun W => Kp [g, r11] w11 W) (by kernel_rfl) (Kp.refl _ _).drew (fun hHeld => ?_)
              refine wpAnyH_take (i := 0) (oi := _) (v := ?_) rfl (by kernel_rfl) (by kernel_rfl) (by kernel_rfl) (fun _ _ _ h => h) (Or.inl ⟨by rfl, ?_⟩) (by assumption) ?_
              rotate_left
              · intro w hSw
                go_simp
                first | done | with_reducible rfl
              try simp only [Act.put, List.setIfInBounds_toArray, List.set_cons_zero, List.set_cons_succ]
              refine wpAnyH_take (i := 1) (oi := _) (v := ?_) rfl (by kernel_rfl) (by kernel_rfl) (by kernel_rfl) (fun _ _ _ h => h) (Or.inl ⟨by rfl, ?_⟩) (by assumption) ?_
              rotate_left
              · intro w hSw
                go_simp
                first | done | with_reducible rfl
              try simp only [Act.put, List.setIfInBounds_toArray, List.set_cons_zero, List.set_cons_succ]
              refine wpAnyH_take (i := 2) (oi := _) (v := ?_) rfl (by kernel_rfl) (by kernel_rfl) (by kernel_rfl) (fun _ _ _ h => h) (Or.inl ⟨by rfl, ?_⟩) (by assumption) ?_
              rotate_left
              · intro w hSw
                go_simp
                first | done | with_reducible rfl
              try simp only [Act.put, List.setIfInBounds_toArray, List.set_cons_zero, List.set_cons_succ]
              refine wpAnyH_take (i := 5) (oi := _) (v := ?_) rfl (by kernel_rfl) (by kernel_rfl) (by kernel_rfl) (fun _ _ _ h => h) (Or.inl ⟨by rfl, ?_⟩) (by assumption) ?_
              rotate_left
              · intro w hSw
                go_simp
                first | done | with_reducible rfl
              try simp only [Act.put, List.setIfInBounds_toArray, List.set_cons_zero, List.set_cons_succ]
              refine wpAnyH_take (i := 11) (oi := _) (v := ?_) rfl (by kernel_rfl) (by kernel_rfl) (by kernel_rfl) (fun _ _ _ h => h) (Or.inl ⟨by rfl, ?_⟩) (by assumption) ?_
              rotate_left
              · intro w hSw
                go_simp
                first | done | with_reducible rfl
              try simp only [Act.put, List.setIfInBounds_toArray, List.set_cons_zero, List.set_cons_succ]
              refine wpAnyH_ready (rs := [3]) (by kernel_rfl) (by simp) ?_
              refine AllReadyH.cons (o := _) rfl (fun K hK => ?_) AllReadyH.nil
              go_simp
              refine (backs_calls _).mono ?_
              rintro e wA ⟨ra1, qa1, ra2, qa2, rfl, RA1, RA2, ha1', ha2', fa1, fa2, OA1⟩
              have KA := hHeld.then (Kp.of [g, r11] OA1)
              have CA : ∀ W, Kp [g, r11] wA W → W.cell? ⟨ra1, kb, none⟩ = some (.int .i64 (xb : Int)) := fun W h => (h.cell RA1.lt (show ra1 ∉ [g, r11] from not_in (by have := hHeld.size; omega) (by have := hHeld.size; omega))).trans (HCB.out wA ra1 RA1)
              refine hK.out _ _ KA (fun hHeld => ?_)
              clear hK K
              try simp only [Act.put, List.setIfInBounds_toArray, List.set_cons_zero, List.set_cons_succ]
              have CE2 : ∀ W, Kp [g, r11] wA W → W.cell? ⟨B, 2, none⟩ = some (.int .i64 (tkn : Int)) := fun W h => CE W (KA.then h)
              refine wpAnyH_strong (S' := fun W => Kp [g, r11] wA W) (fun W h => KA.then h) ?_
              have hHeld2 : (fun W => Kp [g, r11] wA W) wA := Kp.refl _ _
              refine wpAnyH_take (i := 4) (oi := _) (v := ?_) rfl (by kernel_rfl) (by kernel_rfl) (by kernel_rfl) (fun _ _ _ h => h) (Or.inl ⟨by rfl, ?_⟩) (by assumption) ?_
              rotate_left
              · intro w hSw
                go_simp
                first | done | with_reducible rfl
              try simp only [Act.put, List.setIfInBounds_toArray, List.set_cons_zero, List.set_cons_succ]
              refine wpAnyH_take (i := 6) (oi := _) (v := ?_) rfl (by kernel_rfl) (by kernel_rfl) (by kernel_rfl) (fun _ _ _ h => h) (Or.inl ⟨by rfl, ?_⟩) (by assumption) ?_
              rotate_left
              · intro w hSw
                go_simp
                first | done | with_reducible rfl
              try simp only [Act.put, List.setIfInBounds_toArray, List.set_cons_zero, List.set_cons_succ]
              refine wpAnyH_take (i := 7) (oi := _) (v := ?_) rfl (by kernel_rfl) (by kernel_rfl) (by kernel_rfl) (fun _ _ _ h => h) (Or.inl ⟨by rfl, ?_⟩) (by assumption) ?_
              rotate_left
              · intro w hSw
                go_simp
                first | done | with_reducible rfl
              try simp only [Act.put, List.setIfInBounds_toArray, List.set_cons_zero, List.set_cons_succ]
              refine wpAnyH_take (i := 8) (oi := _) (v := ?_) rfl (by kernel_rfl) (by kernel_rfl) (by kernel_rfl) (fun _ _ _ h => h) (Or.inl ⟨by rfl, ?_⟩) (by assumption) ?_
              rotate_left
              · intro w hSw
                go_simp
                first | done | with_reducible rfl
              try simp only [Act.put, List.setIfInBounds_toArray, List.set_cons_zero, List.set_cons_succ]
              refine wpAnyH_ready (rs := [9]) (by kernel_rfl) (by simp) ?_
              refine AllReadyH.cons (o := _) rfl (fun K hK => ?_) AllReadyH.nil
              go_simp
              refine (backs_calls _).mono ?_
              rintro e wB ⟨rb1, qb1, rb2, qb2, rfl, RB1, RB2, hb1', hb2', fb1, fb2, OB1⟩
              have KB := Kp.of [g, r11] OB1
              have CB : ∀ W, Kp [g, r11] wB W → W.cell? ⟨rb2, kb, none⟩ = some (.int .i64 (yb : Int)) := fun W h => (h.cell RB2.lt (show rb2 ∉ [g, r11] from not_in (by have := KA.size; omega) (by have := KA.size; omega))).trans (HCBB.out wB rb2 RB2)
              refine hK.out _ _ KB (fun hHeld => ?_)
              clear hK K
              try simp only [Act.put, List.setIfInBounds_toArray, List.set_cons_zero, List.set_cons_succ]
              refine wpAnyH_strong (S' := fun W => Kp [g, r11] wB W) (fun W h => KB.then h) ?_
              have hHeld3 : (fun W => Kp [g, r11] wB W) wB := Kp.refl _ _
              refine wpAnyH_take (i := 10) (oi := _) (v := ?_) rfl (by kernel_rfl) (by kernel_rfl) (by kernel_rfl) (fun _ _ _ h => h) (Or.inl ⟨by rfl, ?_⟩) (by assumption) ?_
              rotate_left
              · intro w hSw
                go_simp
                first | done | with_reducible rfl
              try simp only [Act.put, List.setIfInBounds_toArray, List.set_cons_zero, List.set_cons_succ]
              refine wpAnyH_take (i := 12) (oi := _) (v := ?_) rfl (by kernel_rfl) (by kernel_rfl) (by kernel_rfl) (fun _ _ _ h => h) (Or.inl ⟨by rfl, ?_⟩) (by assumption) ?_
              rotate_left
              · intro w hSw
                go_simp
                first | done | with_reducible rfl
              try simp only [Act.put, List.setIfInBounds_toArray, List.set_cons_zero, List.set_cons_succ]
              refine wpAnyH_take (i := 13) (oi := _) (v := ?_) rfl (by kernel_rfl) (by kernel_rfl) (by kernel_rfl) (fun _ _ _ h => h) (Or.inl ⟨by rfl, ?_⟩) (by assumption) ?_
              rotate_left
              · intro w hSw
                go_simp
                first | done | with_reducible rfl
              try simp only [Act.put, List.setIfInBounds_toArray, List.set_cons_zero, List.set_cons_succ]
              refine wpAnyH_ready (rs := [14]) (by kernel_rfl) (by simp) ?_
              refine AllReadyH.cons (o := _) rfl (fun K hK => ?_) AllReadyH.nil
              go_simp
              refine (HP2.out _ (HW11.out.on ((On.refl w11).drew.call OA1 |>.call OB1))).mono ?_
              rintro e w6 ⟨r6, rfl, hw6, M6⟩
              refine hK.out _ _ M6.kp (fun hHeld => ?_)
              clear hK K
              try simp only [Act.put, List.setIfInBounds_toArray, List.set_cons_zero, List.set_cons_succ]
              refine wpAnyH_done (by kernel_rfl) ?_ _
              have OO2 := ((On.refl w11).drew.call OA1).call OB1
              go_wp2_with fail
              refine ⟨⟨k + 1, r6, by go_num, by omega, ?_, M12.trans ((mv_on g r11 OO2).trans M6)⟩, by simp [intOf]; omega⟩
              rw [HST.out, HEN.out, ← List.append_assoc, ← List.append_assoc, ← List.append_assoc, HBK2.out, HBK3.out]
              exact hw6
    · obtain rfl : k = n := by omega
      have hfl := flat_le HF.out HH.out.l15 HH.out.d15 k
      have htk : l.take k = l := List.take_of_length_le (by rw [HN.out]; exact Nat.le_refl _)
      rw [htk] at hwr hfl
      have hbl : (bs ++ l.flatMap (encTok lit dist)).length ≤ 200000 := by rw [List.length_append]; omega
      have h256 := lt_of_getD HH.out.last
      have hco := code_lt HH.out.fl h256 HH.out.last (getD_le HH.out.l15 _)
      have hc := code_calls g r' _ lit gl ol nl cl ra nl ca 256 wr hwr (by omega) (hl2.kp M.kp FL.out) (Ra.kp M.kp FA.out) HNL.out rfl h256 (getD_le HH.out.l15 _) hco (M.out hl2.lt FL.out) (M.out Ra.lt FA.out)
      have HC := Lib.hid hc
      have HW5 := Lib.hid hwr
      clear hc htk hwr
      go_wp2_with fail
      refine HC.out.mono ?_
      rintro e w7 ⟨r7, rfl, hw7, M7⟩
      go_wp2_with fail
      go_end0
      refine ⟨r7, rfl, ?_, (mv_on g r OW).trans (M.trans M7)⟩
      unfold encToks
      rw [← List.append_assoc]
      exact hw7
end Go.Proofs.YtncidljdfipigaaDoor.Wi

/- Tokens as they are written by two codes, in the reference. Conditions: the codes have all symbols; sizes. -/
namespace Go.Proofs.YtncidljdfipigaaDoor.Wi
open Go.RowKit Go.Proofs.YtncidljdfipigaaDoor.Mem Go.Proofs.YtncidljdfipigaaDoor.Bt Go.Proofs.YtncidljdfipigaaDoor.Cd Go.Proofs.YtncidljdfipigaaDoor.De Go.Proofs.YtncidljdfipigaaDoor.En Go.Proofs.YtncidljdfipigaaDoor.Lz
set_option linter.unusedVariables false
set_option linter.unusedSimpArgs false
theorem SW.lt {w : World} {g r : Nat} {bs : List Bool} (h : SW w g r bs) (hne : 8 ≤ bs.length) : r < w.heap.size := by
  obtain ⟨v, hb, hy, _⟩ := h.out
  have : pack (bs.take (8 * (bs.length / 8))) ≠ [] := by
    intro e
    have := pack_length (bs.take (8 * (bs.length / 8)))
    rw [e, List.length_take] at this
    simp at this; omega
  obtain ⟨_, _, _, _, R⟩ := hy.parts this
  exact R.lt
set_option maxRecDepth 100000 in
set_option maxHeartbeats 2000000 in
theorem stokens_calls (g r q n cap gl ol nl cl gd od nd cd : Nat) (bs : List Bool) (l : List Tok) (lit dist : List Nat) (w : World) (hw : SW w g r bs) (hr : r < w.heap.size) (hb : bs.length ≤ 100000)
    (hq : Row w q 67 (tokCells l)) (hl : RowO w gl ol 3 (i64s lit)) (hd : RowO w gd od 3 (i64s dist)) (hn : l.length = n) (hn2 : n ≤ 1000) (hnc : n ≤ cap) (hnl : lit.length = nl) (hnd : dist.length = nd) (hnlc : nl ≤ cl) (hndc : nd ≤ cd)
    (hnl2 : nl ≤ 1000) (hnd2 : nd ≤ 1000) (H : Has lit dist l) (F : ∀ t ∈ l, Fine lit dist t) (fq : q ∉ [g, r]) (fl : gl ∉ [g, r]) (fd : gd ∉ [g, r]) :
    Calls Tryd.prog 95 #[.pointer (some ⟨g, 0, none⟩), .slice (some ⟨q, 0, none⟩) n cap, .slice (some ⟨gl, ol, none⟩) nl cl, .slice (some ⟨gd, od, none⟩) nd cd] w fun e w' => ∃ r', e = .returned (.tuple #[]) ∧ SW w' g r' (bs ++ encToks lit dist l) ∧ Mv g r w r' w' := by
  have HN := Lib.hid hn
  have HNL := Lib.hid hnl
  have HND := Lib.hid hnd
  have HF := Lib.hid F
  have HH := Lib.hid H
  have HW := Lib.hid hw
  have hg := hw.glt
  have FQ := Lib.hid fq
  have FL := Lib.hid fl
  have FD := Lib.hid fd
  clear hn hnl hnd F H hw fq fl fd
  go_enter Tryd.func95, Tryd.ntmps95
  go_wp2_with fail
  refine (scodes_calls lit gl ol nl cl w hl HNL.out hnl2 hnlc).mono ?_
  rintro e w1 ⟨ra, ca, rfl, Na, ha1, ha2, O1⟩
  rw [codes_length, HNL.out] at Na ⊢
  go_wp2_with fail
  refine (scodes_calls dist gd od nd cd w1 (hd.on O1) HND.out hnd2 hndc).mono ?_
  rintro e w2 ⟨rb, cb, rfl, Nb, hb1, hb2, O2⟩
  rw [codes_length, HND.out] at Nb ⊢
  go_wp2_with fail
  refine (slong_calls w2).mono ?_
  rintro e w3 ⟨rc, cc, rfl, Nc, hc1, hc2, O3⟩
  go_wp2_with fail
  refine (sbase_calls longBits rc 0 28 cc 3 w3 (Nc.row.1.toO) rfl (by omega) (Nc.row.2.2.1) (by decide) (by omega)).mono ?_
  rintro e w4 ⟨re, ce, rfl, Ne, he1, he2, O4⟩
  go_wp2_with fail
  refine (sback_calls w4).mono ?_
  rintro e w5 ⟨rf, cf, rfl, Nf, hf1, hf2, O5⟩
  go_wp2_with fail
  refine (sbase_calls backBits rf 0 30 cf 1 w5 (Nf.row.1.toO) rfl (by omega) (Nf.row.2.2.1) (by decide) (by omega)).mono ?_
  rintro e w6 ⟨rh, ch, rfl, Nh, hh1, hh2, O6⟩
  have O56 := O5.call O6
  have O46 := O4.call O56
  have O36 := O3.call O46
  have O26 := O2.call O36
  have OW := O1.call O26
  have Ra := (Na.on O26).row.1.toO
  have Rb := (Nb.on O36).row.1.toO
  have Re : RowO w6 re 0 3 (i64s longBase) := (Ne.on O56).row.1.toO
  have Rh : RowO w6 rh 0 3 (i64s backBase) := Nh.row.1.toO
  have hq2 := hq.on OW
  have hl2 := hl.on OW
  have hd2 := hd.on OW
  have hz1 := O1.size
  have hz2 := O2.size
  have hz3 := O3.size
  have hz4 := O4.size
  have hz5 := O5.size
  have hw2 : RowKit.Hid (SW w6 g r bs) := Lib.hid (HW.out.on OW)
  have FA : RowKit.Hid (ra ∉ [g, r]) := Lib.hid (not_in (by omega) (by omega))
  have FB : RowKit.Hid (rb ∉ [g, r]) := Lib.hid (not_in (by omega) (by omega))
  have FE : RowKit.Hid (re ∉ [g, r]) := Lib.hid (not_in (by omega) (by omega))
  have FH : RowKit.Hid (rh ∉ [g, r]) := Lib.hid (not_in (by omega) (by omega))
  have hce : 28 ≤ ce := Ne.row.2.2.1
  have hch : 30 ≤ ch := Nh.row.2.2.1
  rw [show (base 3 longBits).length = 28 from rfl, show (base 1 backBits).length = 30 from rfl]
  clear Na Nb Nc Ne Nf Nh
  go_wp2_with fail
  go_loopw [12] (fun x wr => ∃ (k r' : Nat), x = .int .i64 (k : Int) ∧ k ≤ n ∧ SW wr g r' (bs ++ (l.take k).flatMap (encTok lit dist)) ∧ Mv g r w6 r' wr) (fun x _ => n - (intOf x).toNat)
  case atStart => exact ⟨0, r, rfl, by omega, by simpa using hw2.out, Mv.refl _ _ _⟩
  case round =>
    obtain ⟨k, r', rfl, hk, hwr, M⟩ := hrel
    have hr6 := Nat.lt_of_lt_of_le hr OW.size
    by_cases hlt : k < n
    · have hkl : k < l.length := by rw [HN.out]; exact hlt
      obtain ⟨t0, t1, t2⟩ := tok_get hkl
      have hstep : (l.take (k + 1)).flatMap (encTok lit dist) = (l.take k).flatMap (encTok lit dist) ++ encTok lit dist l[k] := by
        rw [List.take_succ_eq_append_getElem hkl, List.flatMap_append]; simp
      have Ft := HF.out _ (List.getElem_mem hkl)
      have Hby := HH.out.byte _ (List.getElem_mem hkl)
      have Hlo := HH.out.long _ (List.getElem_mem hkl)
      have Hba := HH.out.back _ (List.getElem_mem hkl)
      have hfl := flat_le HF.out HH.out.l15 HH.out.d15 k
      have R := M.kp.row hq2 FQ.out
      have c0 := R.cell t0
      have c1 := R.cell t1
      have c2 := R.cell t2
      have hbl : (bs ++ (l.take k).flatMap (encTok lit dist)).length ≤ 200000 := by rw [List.length_append]; omega
      have hst2 : bs ++ (l.take (k + 1)).flatMap (encTok lit dist) = (bs ++ (l.take k).flatMap (encTok lit dist)) ++ encTok lit dist l[k] := by rw [hstep, List.append_assoc]
      generalize l[k] = t at *
      generalize bs ++ (l.take k).flatMap (encTok lit dist) = bk at *
      have HST := Lib.hid hst2
      clear t0 t1 t2 hstep hst2
      obtain ⟨tb, tl, tk⟩ := t
      simp only at c0 c1 c2 Ft Hby Hlo Hba
      by_cases h0 : tl = 0
      · subst h0
        have hbyte := Ft.byte rfl
        obtain ⟨b, rfl⟩ := Int.eq_ofNat_of_zero_le hbyte.1
        have Hb1 := Hby rfl
        have hbn : ((b : Int)).toNat = b := by omega
        simp only [Int.ofNat_eq_natCast, hbn] at Hb1
        have hlt1 := lt_of_getD Hb1
        have hcl := code_lt HH.out.fl hlt1 Hb1 (getD_le HH.out.l15 b)
        have hen : encTok lit dist ⟨(b : Int), 0, tk⟩ = enc lit b := by unfold encTok; rw [if_pos rfl]; rfl
        have HEN := Lib.hid hen
        have h15 := getD_le HH.out.l15 b
        have OA := (On.refl wr).alloc (.cells #[.int .i64 (b : Int), .int .i64 0, .int .i64 tk] 67)
        have hc := sym_calls g r' bk lit gl ol nl cl ra nl ca b _ (hwr.on OA) (by omega) ((hl2.kp M.kp FL.out).on OA) ((Ra.kp M.kp FA.out).on OA) HNL.out rfl hlt1 h15 hcl
        have HC := Lib.hid hc
        clear hen hc hbn Ft Hby Hlo Hba
        go_wp2_with fail
        refine HC.out.mono ?_
        rintro e w3 ⟨r3, rfl, hw3, M3⟩
        go_wp2_with fail
        refine ⟨⟨k + 1, r3, by go_num, by omega, ?_, M.trans ((mv_on g r' OA).trans M3)⟩, by simp [intOf]; omega⟩
        rw [HST.out, HEN.out]
        exact hw3
      · obtain ⟨l3, l60, k1, k250⟩ := Ft.long h0
        simp only at l3 l60 k1 k250
        have Hl1 := Hlo h0
        have Hb1 := Hba h0
        obtain ⟨tln, rfl⟩ := Int.eq_ofNat_of_zero_le (show 0 ≤ tl by omega)
        obtain ⟨tkn, rfl⟩ := Int.eq_ofNat_of_zero_le (show 0 ≤ tk by omega)
        have h0' : ((tln : Int) == 0) = false := by simp; omega
        have hen : encTok lit dist ⟨tb, (tln : Int), (tkn : Int)⟩ = enc lit (257 + lad longBase tln) ++ (bitsOf (tln - longBase.getD (lad longBase tln) 0) (longBits.getD (lad longBase tln) 0) ++ (enc dist (lad backBase tkn) ++ bitsOf (tkn - backBase.getD (lad backBase tkn) 0) (backBits.getD (lad backBase tkn) 0))) := by
          unfold encTok; rw [if_neg (by simp; omega)]; rfl
        have HEN := Lib.hid hen
        simp only [Int.ofNat_eq_natCast, Int.toNat_natCast] at *
        obtain ⟨a1, a2, a3, a4⟩ := lad_long tln (by omega) (by omega)
        obtain ⟨b1, b2, b3, b4⟩ := lad_back tkn (by omega) (by omega)
        clear hen Ft Hby Hlo Hba
        have OA := (On.refl wr).alloc (.cells #[.int .i64 tb, .int .i64 (tln : Int), .int .i64 (tkn : Int)] 67)
        have BA := Blk.new wr 67 #[.int .i64 tb, .int .i64 (tln : Int), .int .i64 (tkn : Int)]
        have hg1 := hwr.glt
        have hr1 := M.lt hr6
        have hwa := hwr.on OA
        have HWA := Lib.hid hwa
        have MA := M.trans (mv_on g r' OA)
        have ReA := (Re.kp M.kp FE.out).on OA
        have RhA := (Rh.kp M.kp FH.out).on OA
        have hsL := fun W (R : RowO W re 0 3 (i64s longBase)) => ssym_calls longBase re 28 ce tln W R (by decide) (by omega) hce (by omega) (by show 3 ≤ tln; omega) long_rising (by omega)
        have hsB := fun W (R : RowO W rh 0 3 (i64s backBase)) => ssym_calls backBase rh 30 ch tkn W R (by decide) (by omega) hch (by omega) (by show 1 ≤ tkn; omega) back_rising (by omega)
        have hcL := fun W r3 (R : RowO W r3 0 3 (i64s longBase)) => R.cell (i64s_get (show lad longBase tln < longBase.length from a1))
        have hcLb := fun W r3 (R : RowO W r3 0 3 (i64s longBits)) => R.cell (i64s_get (show lad longBase tln < longBits.length from a1))
        have hcB := fun W r3 (R : RowO W r3 0 3 (i64s backBase)) => R.cell (i64s_get (show lad backBase tkn < backBase.length from b1))
        have hcBb := fun W r3 (R : RowO W r3 0 3 (i64s backBits)) => R.cell (i64s_get (show lad backBase tkn < backBits.length from b1))
        simp only [Nat.zero_add] at hcL hcLb hcB hcBb
        have hl1 := lt_of_getD Hl1
        have hd1 := lt_of_getD Hb1
        have hco1 := code_lt HH.out.fl hl1 Hl1 (getD_le HH.out.l15 _)
        have hco2 := code_lt HH.out.fd hd1 Hb1 (getD_le HH.out.d15 _)
        have h15a := getD_le HH.out.l15 (257 + lad longBase tln)
        have h15b := getD_le HH.out.d15 (lad backBase tkn)
        have HSL := Lib.hid hsL
        have HSB := Lib.hid hsB
        have HCL := Lib.hid hcL
        have HCLB := Lib.hid hcLb
        have HCB := Lib.hid hcB
        have HCBB := Lib.hid hcBb
        clear hsL hsB hcL hcLb hcB hcBb
        go_wp2_with fail
        generalize hB : wr.heap.size = B at *
        have HB := Lib.hid hB
        clear hB
        generalize wr.alloc (.cells #[.int .i64 tb, .int .i64 (tln : Int), .int .i64 (tkn : Int)] 67) = wa at *
        have hBw : B < wa.heap.size := BA.lt
        have FBB : RowKit.Hid (B ∉ [g, r']) := Lib.hid (not_in (by omega) (by omega))
        generalize lad longBase tln = kl at *
        generalize lad backBase tkn = kb at *
        generalize longBase.getD kl 0 = xl at *
        generalize longBits.getD kl 0 = yl at *
        generalize backBase.getD kb 0 = xb at *
        generalize backBits.getD kb 0 = yb at *
        generalize hdl : tln - xl = dl at *
        generalize hdb : tkn - xb = db at *
        have wl : IntKind.i64.wrap ((tln : Int) - (xl : Int)) = (dl : Int) := by rw [IntKind.wrap_i64]; omega
        have wb : IntKind.i64.wrap ((tkn : Int) - (xb : Int)) = (db : Int) := by rw [IntKind.wrap_i64]; omega
        have hdl2 : dl ≤ 60 := by omega
        have hdb2 : db ≤ 250 := by omega
        have HDLL := Lib.hid hdl
        have HDBB := Lib.hid hdb
        clear hdl hdb hwa hwr
        refine (HSL.out wa ReA).mono ?_
        rintro e w5 ⟨rfl, O5⟩
        have OB := O5
        have M5 := MA.trans (mv_on g r' O5)
        have hw5 := HWA.out.on O5
        have B5 := BA.call O5.out
        have hc := sym_calls g r' bk lit gl ol nl cl ra nl ca (257 + kl) w5 hw5 (by omega) (hl2.kp M5.kp FL.out) (Ra.kp M5.kp FA.out) HNL.out rfl hl1 h15a hco1
        rw [show (((257 + kl : Nat) : Int)) = 257 + (kl : Int) from by omega] at hc
        have HC := Lib.hid hc
        clear hc
        go_wp2_with fail
        refine HC.out.mono ?_
        rintro e w7 ⟨r7, rfl, hw7, M7⟩
        have M8 := M5.trans M7
        have B7 : Blk w7 B 67 #[.int .i64 tb, .int .i64 (tln : Int), .int .i64 (tkn : Int)] := M7.kp.blk B5 FBB.out
        have FB7 : RowKit.Hid (B ∉ [g, r7]) := Lib.hid (M7.out B5.lt FBB.out)
        have e1 : w7.cell? ⟨B, 1, none⟩ = some (.int .i64 (tln : Int)) := (B7.cell 1).trans rfl
        have e3 : w7.cell? ⟨re, kl, none⟩ = some (.int .i64 (xl : Int)) := HCL.out w7 re (Re.kp M8.kp FE.out)
        have hel := enc_length lit HH.out.l15 (257 + kl)
        have hbb : (bk ++ enc lit (257 + kl)).length ≤ 300000 := by rw [List.length_append]; omega
        have hp1 := fun W h => sput_calls g r7 (bk ++ enc lit (257 + kl)) dl yl W h (by omega) (by omega) (by omega)
        have HW7 := Lib.hid hw7
        have HP1 := Lib.hid hp1
        have hgS := hw7.glt
        have hrS := M8.lt (Nat.lt_of_lt_of_le hr OW.size)
        clear hp1 hw7 hel
        generalize hbk2 : bk ++ enc lit (257 + kl) = bk2 at *
        have HBK2 := Lib.hid hbk2
        clear hbk2
        have hkl : (kl : Int) < 28 := by omega
        have hkb : (kb : Int) < 30 := by omega
        have fre : re ∉ [g, r7] := M8.out Re.lt FE.out
        have FRE := Lib.hid fre
        clear fre
        go_upto_region 12 with fail
        go_cut [14] (fun s12 wx => ∃ r4, RowKit.Hid (SW wx g r4 (bk2 ++ bitsOf dl yl)) ∧ Mv g r7 w7 r4 wx)
        case first =>
          have kz : ((kl : Nat) : Int) < 28 := by omega
          have kz2 : ((kl : Nat) : Int) < ((longBits.length : Nat) : Int) := by rw [show longBits.length = 28 from rfl]; omega
          have CE : ∀ W, Kp [g, r7] w7 W → W.cell? ⟨B, 1, none⟩ = some (.int .i64 (tln : Int)) := fun W h => (h.cell B7.lt FB7.out).trans e1
          have CT : ∀ W, Kp [g, r7] w7 W → W.cell? ⟨re, kl, none⟩ = some (.int .i64 (xl : Int)) := fun W h => (h.cell (World.block_lt_of_cell? w7 _ e3) FRE.out).trans e3
          refine wp_region_held_drew (S := fun W => Kp [g, r7] w7 W) (by kernel_rfl) (Kp.refl _ _).drew (fun hHeld => ?_)
          refine wpAnyH_take (i := 0) (oi := _) (v := ?_) rfl (by kernel_rfl) (by kernel_rfl) (by kernel_rfl) (fun _ _ _ h => h) (Or.inl ⟨by rfl, ?_⟩) (by assumption) ?_
          rotate_left
          · intro w hSw
            go_simp
            first | done | with_reducible rfl
          try simp only [Act.put, List.setIfInBounds_toArray, List.set_cons_zero, List.set_cons_succ]
          refine wpAnyH_take (i := 1) (oi := _) (v := ?_) rfl (by kernel_rfl) (by kernel_rfl) (by kernel_rfl) (fun _ _ _ h => h) (Or.inl ⟨by rfl, ?_⟩) (by assumption) ?_
          rotate_left
          · intro w hSw
            go_simp
            first | done | with_reducible rfl
          try simp only [Act.put, List.setIfInBounds_toArray, List.set_cons_zero, List.set_cons_succ]
          refine wpAnyH_take (i := 2) (oi := _) (v := ?_) rfl (by kernel_rfl) (by kernel_rfl) (by kernel_rfl) (fun _ _ _ h => h) (Or.inl ⟨by rfl, ?_⟩) (by assumption) ?_
          rotate_left
          · intro w hSw
            go_simp
            first | done | with_reducible rfl
          try simp only [Act.put, List.setIfInBounds_toArray, List.set_cons_zero, List.set_cons_succ]
          refine wpAnyH_take (i := 3) (oi := _) (v := ?_) rfl (by kernel_rfl) (by kernel_rfl) (by kernel_rfl) (fun _ _ _ h => h) (Or.inl ⟨by rfl, ?_⟩) (by assumption) ?_
          rotate_left
          · intro w hSw
            go_simp
            first | done | with_reducible rfl
          try simp only [Act.put, List.setIfInBounds_toArray, List.set_cons_zero, List.set_cons_succ]
          refine wpAnyH_take (i := 4) (oi := _) (v := ?_) rfl (by kernel_rfl) (by kernel_rfl) (by kernel_rfl) (fun _ _ _ h => h) (Or.inl ⟨by rfl, ?_⟩) (by assumption) ?_
          rotate_left
          · intro w hSw
            go_simp
            first | done | with_reducible rfl
          try simp only [Act.put, List.setIfInBounds_toArray, List.set_cons_zero, List.set_cons_succ]
          refine wpAnyH_take (i := 5) (oi := _) (v := ?_) rfl (by kernel_rfl) (by kernel_rfl) (by kernel_rfl) (fun _ _ _ h => h) (Or.inl ⟨by rfl, ?_⟩) (by assumption) ?_
          rotate_left
          · intro w hSw
            go_simp
            first | done | with_reducible rfl
          try simp only [Act.put, List.setIfInBounds_toArray, List.set_cons_zero, List.set_cons_succ]
          refine wpAnyH_take (i := 6) (oi := _) (v := ?_) rfl (by kernel_rfl) (by kernel_rfl) (by kernel_rfl) (fun _ _ _ h => h) (Or.inl ⟨by rfl, ?_⟩) (by assumption) ?_
          rotate_left
          · intro w hSw
            go_simp
            first | done | with_reducible rfl
          try simp only [Act.put, List.setIfInBounds_toArray, List.set_cons_zero, List.set_cons_succ]
          refine wpAnyH_take (i := 7) (oi := _) (v := ?_) rfl (by kernel_rfl) (by kernel_rfl) (by kernel_rfl) (fun _ _ _ h => h) (Or.inl ⟨by rfl, ?_⟩) (by assumption) ?_
          rotate_left
          · intro w hSw
            go_simp
            first | done | with_reducible rfl
          try simp only [Act.put, List.setIfInBounds_toArray, List.set_cons_zero, List.set_cons_succ]
          refine wpAnyH_take (i := 9) (oi := _) (v := ?_) rfl (by kernel_rfl) (by kernel_rfl) (by kernel_rfl) (fun _ _ _ h => h) (Or.inl ⟨by rfl, ?_⟩) (by assumption) ?_
          rotate_left
          · intro w hSw
            go_simp
            first | done | with_reducible rfl
          try simp only [Act.put, List.setIfInBounds_toArray, List.set_cons_zero, List.set_cons_succ]
          refine wpAnyH_ready (rs := [8]) (by kernel_rfl) (by simp) ?_
          refine AllReadyH.cons (o := _) rfl (fun K hK => ?_) AllReadyH.nil
          go_simp
          refine (slong_calls _).mono ?_
          rintro e wA ⟨rf, cf, rfl, Nf, hf1, hf2, O8⟩
          have KA := hHeld.then (Kp.of [g, r7] O8)
          have CA : ∀ W, Kp [g, r7] wA W → W.cell? ⟨rf, kl, none⟩ = some (.int .i64 (yl : Int)) := fun W h => (h.cell hf2 (show rf ∉ [g, r7] from not_in (by have := hHeld.size; omega) (by have := hHeld.size; omega))).trans (HCLB.out wA rf Nf.row.1.toO)
          refine hK.out _ _ KA (fun hHeld => ?_)
          clear hK K
          try simp only [Act.put, List.setIfInBounds_toArray, List.set_cons_zero, List.set_cons_succ]
          refine wpAnyH_strong (S' := fun W => Kp [g, r7] wA W) (fun W h => KA.then h) ?_
          have hHeld2 : (fun W => Kp [g, r7] wA W) wA := Kp.refl _ _
          refine wpAnyH_take (i := 10) (oi := _) (v := ?_) rfl (by kernel_rfl) (by kernel_rfl) (by kernel_rfl) (fun _ _ _ h => h) (Or.inl ⟨by rfl, ?_⟩) (by assumption) ?_
          rotate_left
          · intro w hSw
            go_simp
            first | done | with_reducible rfl
          try simp only [Act.put, List.setIfInBounds_toArray, List.set_cons_zero, List.set_cons_succ]
          refine wpAnyH_take (i := 11) (oi := _) (v := ?_) rfl (by kernel_rfl) (by kernel_rfl) (by kernel_rfl) (fun _ _ _ h => h) (Or.inl ⟨by rfl, ?_⟩) (by assumption) ?_
          rotate_left
          · intro w hSw
            go_simp
            first | done | with_reducible rfl
          try simp only [Act.put, List.setIfInBounds_toArray, List.set_cons_zero, List.set_cons_succ]
          refine wpAnyH_ready (rs := [12]) (by kernel_rfl) (by simp) ?_
          refine AllReadyH.cons (o := _) rfl (fun K hK => ?_) AllReadyH.nil
          go_simp
          refine (HP1.out _ (HW7.out.on ((On.refl w7).drew.call O8))).mono ?_
          rintro e w9 ⟨r9, rfl, hw9, M9⟩
          refine hK.out _ _ M9.kp (fun hHeld => ?_)
          clear hK K
          try simp only [Act.put, List.setIfInBounds_toArray, List.set_cons_zero, List.set_cons_succ]
          refine wpAnyH_done (by kernel_rfl) ?_ _
          have OO := (On.refl w7).drew.call O8
          go_wp2_with fail
          go_meet
          exact ⟨r9, Lib.hid hw9, (mv_on g r7 OO).trans M9⟩
        case rest =>
          obtain ⟨r4, HW4, M4⟩ := hcut
          have M9 := M8.trans M4
          have B9 : Blk wc B 67 #[.int .i64 tb, .int .i64 (tln : Int), .int .i64 (tkn : Int)] := M4.kp.blk B7 FB7.out
          have FB9 : RowKit.Hid (B ∉ [g, r4]) := Lib.hid (M4.out B7.lt FB7.out)
          have g2 : wc.cell? ⟨B, 2, none⟩ = some (.int .i64 (tkn : Int)) := (B9.cell 2).trans rfl
          have Rh9 := Rh.kp M9.kp FH.out
          go_wp2_with fail
          refine (HSB.out wc Rh9).mono ?_
          rintro e w10 ⟨rfl, O10⟩
          have M10 := M9.trans (mv_on g r4 O10)
          have hw10 := HW4.out.on O10
          have B10 := B9.call O10.out
          have hbb3 : (bk2 ++ bitsOf dl yl).length ≤ 400000 := by rw [List.length_append, bits_length]; omega
          have hc := sym_calls g r4 (bk2 ++ bitsOf dl yl) dist gd od nd cd rb nd cb kb w10 hw10 (by omega) (hd2.kp M10.kp FD.out) (Rb.kp M10.kp FB.out) HND.out rfl hd1 h15b hco2
          have HC2 := Lib.hid hc
          clear hc
          go_wp2_with fail
          refine HC2.out.mono ?_
          rintro e w11 ⟨r11, rfl, hw11, M11⟩
          have M12 := M10.trans M11
          have B11 : Blk w11 B 67 #[.int .i64 tb, .int .i64 (tln : Int), .int .i64 (tkn : Int)] := M11.kp.blk B10 FB9.out
          have FB11 : RowKit.Hid (B ∉ [g, r11]) := Lib.hid (M11.out B10.lt FB9.out)
          have i2 : w11.cell? ⟨B, 2, none⟩ = some (.int .i64 (tkn : Int)) := (B11.cell 2).trans rfl
          have i3 : w11.cell? ⟨rh, kb, none⟩ = some (.int .i64 (xb : Int)) := HCB.out w11 rh (Rh.kp M12.kp FH.out)
          have hel := enc_length dist HH.out.d15 kb
          have hbb4 : (bk2 ++ bitsOf dl yl ++ enc dist kb).length ≤ 500000 := by rw [List.length_append]; omega
          have hp2 := fun W h => sput_calls g r11 (bk2 ++ bitsOf dl yl ++ enc dist kb) db yb W h (by omega) (by omega) (by omega)
          have HW11 := Lib.hid hw11
          have HP2 := Lib.hid hp2
          have hgS := hw11.glt
          have hrS := M12.lt (Nat.lt_of_lt_of_le hr OW.size)
          clear hp2 hw11 hel
          generalize hbk3 : bk2 ++ bitsOf dl yl ++ enc dist kb = bk3 at *
          have HBK3 := Lib.hid hbk3
          clear hbk3
          have frh : rh ∉ [g, r11] := M12.out Rh.lt FH.out
          have FRH := Lib.hid frh
          clear frh
          go_upto_region 15 with fail
          have kz : ((kb : Nat) : Int) < 30 := by omega
          have kz2 : ((kb : Nat) : Int) < ((backBits.length : Nat) : Int) := by rw [show backBits.length = 30 from rfl]; omega
          have CE : ∀ W, Kp [g, r11] w11 W → W.cell? ⟨B, 2, none⟩ = some (.int .i64 (tkn : Int)) := fun W h => (h.cell B11.lt FB11.out).trans i2
          have CT : ∀ W, Kp [g, r11] w11 W → W.cell? ⟨rh, kb, none⟩ = some (.int .i64 (xb : Int)) := fun W h => (h.cell (World.block_lt_of_cell? w11 _ i3) FRH.out).trans i3
          refine wp_region_held_drew (S := fun W => Kp [g, r11] w11 W) (by kernel_rfl) (Kp.refl _ _).drew (fun hHeld => ?_)
          refine wpAnyH_take (i := 0) (oi := _) (v := ?_) rfl (by kernel_rfl) (by kernel_rfl) (by kernel_rfl) (fun _ _ _ h => h) (Or.inl ⟨by rfl, ?_⟩) (by assumption) ?_
          rotate_left
          · intro w hSw
            go_simp
            first | done | with_reducible rfl
          try simp only [Act.put, List.setIfInBounds_toArray, List.set_cons_zero, List.set_cons_succ]
          refine wpAnyH_take (i := 1) (oi := _) (v := ?_) rfl (by kernel_rfl) (by kernel_rfl) (by kernel_rfl) (fun _ _ _ h => h) (Or.inl ⟨by rfl, ?_⟩) (by assumption) ?_
          rotate_left
          · intro w hSw
            go_simp
            first | done | with_reducible rfl
          try simp only [Act.put, List.setIfInBounds_toArray, List.set_cons_zero, List.set_cons_succ]
          refine wpAnyH_take (i := 2) (oi := _) (v := ?_) rfl (by kernel_rfl) (by kernel_rfl) (by kernel_rfl) (fun _ _ _ h => h) (Or.inl ⟨by rfl, ?_⟩) (by assumption) ?_
          rotate_left
          · intro w hSw
            go_simp
            first | done | with_reducible rfl
          try simp only [Act.put, List.setIfInBounds_toArray, List.set_cons_zero, List.set_cons_succ]
          refine wpAnyH_take (i := 3) (oi := _) (v := ?_) rfl (by kernel_rfl) (by kernel_rfl) (by kernel_rfl) (fun _ _ _ h => h) (Or.inl ⟨by rfl, ?_⟩) (by assumption) ?_
          rotate_left
          · intro w hSw
            go_simp
            first | done | with_reducible rfl
          try simp only [Act.put, List.setIfInBounds_toArray, List.set_cons_zero, List.set_cons_succ]
          refine wpAnyH_take (i := 4) (oi := _) (v := ?_) rfl (by kernel_rfl) (by kernel_rfl) (by kernel_rfl) (fun _ _ _ h => h) (Or.inl ⟨by rfl, ?_⟩) (by assumption) ?_
          rotate_left
          · intro w hSw
            go_simp
            first | done | with_reducible rfl
          try simp only [Act.put, List.setIfInBounds_toArray, List.set_cons_zero, List.set_cons_succ]
          refine wpAnyH_take (i := 5) (oi := _) (v := ?_) rfl (by kernel_rfl) (by kernel_rfl) (by kernel_rfl) (fun _ _ _ h => h) (Or.inl ⟨by rfl, ?_⟩) (by assumption) ?_
          rotate_left
          · intro w hSw
            go_simp
            first | done | with_reducible rfl
          try simp only [Act.put, List.setIfInBounds_toArray, List.set_cons_zero, List.set_cons_succ]
          refine wpAnyH_take (i := 6) (oi := _) (v := ?_) rfl (by kernel_rfl) (by kernel_rfl) (by kernel_rfl) (fun _ _ _ h => h) (Or.inl ⟨by rfl, ?_⟩) (by assumption) ?_
          rotate_left
          · intro w hSw
            go_simp
            first | done | with_reducible rfl
          try simp only [Act.put, List.setIfInBounds_toArray, List.set_cons_zero, List.set_cons_succ]
          refine wpAnyH_take (i := 7) (oi := _) (v := ?_) rfl (by kernel_rfl) (by kernel_rfl) (by kernel_rfl) (fun _ _ _ h => h) (Or.inl ⟨by rfl, ?_⟩) (by assumption) ?_
          rotate_left
          · intro w hSw
            go_simp
            first | done | with_reducible rfl
          try simp only [Act.put, List.setIfInBounds_toArray, List.set_cons_zero, List.set_cons_succ]
          refine wpAnyH_take (i := 9) (oi := _) (v := ?_) rfl (by kernel_rfl) (by kernel_rfl) (by kernel_rfl) (fun _ _ _ h => h) (Or.inl ⟨by rfl, ?_⟩) (by assumption) ?_
          rotate_left
          · intro w hSw
            go_simp
            first | done | with_reducible rfl
          try simp only [Act.put, List.setIfInBounds_toArray, List.set_cons_zero, List.set_cons_succ]
          refine wpAnyH_ready (rs := [8]) (by kernel_rfl) (by simp) ?_
          refine AllReadyH.cons (o := _) rfl (fun K hK => ?_) AllReadyH.nil
          go_simp
          refine (sback_calls _).mono ?_
          rintro e wA ⟨rf, cf, rfl, Nf, hf1, hf2, O8⟩
          have KA := hHeld.then (Kp.of [g, r11] O8)
          have CA : ∀ W, Kp [g, r11] wA W → W.cell? ⟨rf, kb, none⟩ = some (.int .i64 (yb : Int)) := fun W h => (h.cell hf2 (show rf ∉ [g, r11] from not_in (by have := hHeld.size; omega) (by have := hHeld.size; omega))).trans (HCBB.out wA rf Nf.row.1.toO)
          refine hK.out _ _ KA (fun hHeld => ?_)
          clear hK K
          try simp only [Act.put, List.setIfInBounds_toArray, List.set_cons_zero, List.set_cons_succ]
          refine wpAnyH_strong (S' := fun W => Kp [g, r11] wA W) (fun W h => KA.then h) ?_
          have hHeld2 : (fun W => Kp [g, r11] wA W) wA := Kp.refl _ _
          refine wpAnyH_take (i := 10) (oi := _) (v := ?_) rfl (by kernel_rfl) (by kernel_rfl) (by kernel_rfl) (fun _ _ _ h => h) (Or.inl ⟨by rfl, ?_⟩) (by assumption) ?_
          rotate_left
          · intro w hSw
            go_simp
            first | done | with_reducible rfl
          try simp only [Act.put, List.setIfInBounds_toArray, List.set_cons_zero, List.set_cons_succ]
          refine wpAnyH_take (i := 11) (oi := _) (v := ?_) rfl (by kernel_rfl) (by kernel_rfl) (by kernel_rfl) (fun _ _ _ h => h) (Or.inl ⟨by rfl, ?_⟩) (by assumption) ?_
          rotate_left
          · intro w hSw
            go_simp
            first | done | with_reducible rfl
          try simp only [Act.put, List.setIfInBounds_toArray, List.set_cons_zero, List.set_cons_succ]
          refine wpAnyH_ready (rs := [12]) (by kernel_rfl) (by simp) ?_
          refine AllReadyH.cons (o := _) rfl (fun K hK => ?_) AllReadyH.nil
          go_simp
          refine (HP2.out _ (HW11.out.on ((On.refl w11).drew.call O8))).mono ?_
          rintro e w9 ⟨r9, rfl, hw9, M9⟩
          refine hK.out _ _ M9.kp (fun hHeld => ?_)
          clear hK K
          try simp only [Act.put, List.setIfInBounds_toArray, List.set_cons_zero, List.set_cons_succ]
          refine wpAnyH_done (by kernel_rfl) ?_ _
          have OO := (On.refl w11).drew.call O8
          go_wp2_with fail
          refine ⟨⟨k + 1, r9, by go_num, by omega, ?_, M12.trans ((mv_on g r11 OO).trans M9)⟩, by simp [intOf]; omega⟩
          rw [HST.out, HEN.out, ← List.append_assoc, ← List.append_assoc, ← List.append_assoc, HBK2.out, HBK3.out]
          exact hw9
    · obtain rfl : k = n := by omega
      have hfl := flat_le HF.out HH.out.l15 HH.out.d15 k
      have htk : l.take k = l := List.take_of_length_le (by rw [HN.out]; exact Nat.le_refl _)
      rw [htk] at hwr hfl
      have hbl : (bs ++ l.flatMap (encTok lit dist)).length ≤ 200000 := by rw [List.length_append]; omega
      have h256 := lt_of_getD HH.out.last
      have hco := code_lt HH.out.fl h256 HH.out.last (getD_le HH.out.l15 _)
      have hc := sym_calls g r' _ lit gl ol nl cl ra nl ca 256 wr hwr (by omega) (hl2.kp M.kp FL.out) (Ra.kp M.kp FA.out) HNL.out rfl h256 (getD_le HH.out.l15 _) hco
      have HC := Lib.hid hc
      clear hc htk hwr
      go_wp2_with fail
      refine HC.out.mono ?_
      rintro e w7 ⟨r7, rfl, hw7, M7⟩
      go_wp2_with fail
      go_end0
      refine ⟨r7, rfl, ?_, (mv_on g r OW).trans (M.trans M7)⟩
      unfold encToks
      rw [← List.append_assoc]
      exact hw7
end Go.Proofs.YtncidljdfipigaaDoor.Wi

