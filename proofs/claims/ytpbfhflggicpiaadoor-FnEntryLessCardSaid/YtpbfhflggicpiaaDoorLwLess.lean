/- The walk of FnEntryLess: at every input it returns true and keeps what was. The one fact that it takes: the library's cell of a length holds some number. -/
import Derived.Test.YtpbfhflggicpiaaDoorEt
import Derived.Test.YtpbfhflggicpiaaDoorDrawE
namespace Go.Proofs.YtpbfhflggicpiaaDoor.Nm
open Go.RowKit Go.Proofs.YtpbfhflggicpiaaDoor.Mem Go.Proofs.YtpbfhflggicpiaaDoor.Wi Go.Proofs.YtpbfhflggicpiaaDoor.Draw
set_option linter.unusedVariables false
set_option linter.unusedSimpArgs false
theorem less_of {nm : ByteArray} {y m d h mi s : Int} {tx t2 : ByteArray} (hk : entryOk nm y m d h mi s tx = true) : entryOk nm y m d h mi s t2 = decide (t2.size ≤ 300) := by
  unfold entryOk at hk ⊢
  simp only [Bool.and_eq_true] at hk
  rw [hk.1, hk.2.1, Bool.true_and, Bool.true_and]
set_option maxRecDepth 100000 in
set_option maxHeartbeats 2000000 in
theorem law_less (a0 : Option Addr) (len0 cap0 : Nat) (z0 : List Int) (w : World) (hf : Fact w) (w0 : (a0 = none ∧ len0 = 0 ∧ cap0 = 0 ∧ z0 = []) ∨ ∃ x, a0 = some x ∧ len0 ≤ cap0 ∧ cap0 ≤ maxLen ∧ z0.length = cap0 ∧ (∀ i, i < z0.length → w.cell? (x.add i) = some (.int .u8 (z0.getD i 0))) ∧ ∀ n ∈ z0, (Lit.int .u8 n).wf = true) :
    Calls Tryd.prog 7 #[.slice a0 len0 cap0] w (Tells w (.bool true)) := by
  by_cases hb : (1048576 : Int) < len0
  · go_enter Tryd.func7, Tryd.ntmps7
    go_wp2_with fail
    go_ret
    exact ⟨rfl, On.refl _⟩
  have hb' : (len0 : Int) ≤ 1048576 := by omega
  go_enter Tryd.func7, Tryd.ntmps7
  go_wp2_with fail
  refine (drawentryok_calls a0 len0 cap0 z0 w w0).mono ?_
  rintro e w1 ⟨nm, y, m, d, h, mi, s, tx, rfl, hnm, htx, O1⟩
  unfold env
  have hn2 : nm.size < 4294967281 := by omega
  have hsp := fun t w ht => sentry_calls nm y m d h mi s t w hn2 ht
  have him := fun t w hf ht => ientry_calls nm y m d h mi s t w hf hn2 ht
  have hls := fun t2 => less_of (nm := nm) (y := y) (m := m) (d := d) (h := h) (mi := mi) (s := s) (tx := tx) (t2 := t2)
  unfold ent at hsp him
  have HSP := Lib.hid hsp
  have HIM := Lib.hid him
  have HLS := Lib.hid hls
  have htm : tx.size ≤ maxLen := by unfold maxLen; omega
  have HTM := Lib.hid htm
  have OA := (On.refl w1).alloc (.cells #[.string nm, .int .i64 y, .int .i64 m, .int .i64 d, .int .i64 h, .int .i64 mi, .int .i64 s, .string tx] 34)
  have BA := Blk.new w1 34 #[.string nm, .int .i64 y, .int .i64 m, .int .i64 d, .int .i64 h, .int .i64 mi, .int .i64 s, .string tx]
  have O2 := O1.call OA
  clear hsp him hls htm
  go_wp2_with fail
  generalize hP : w1.heap.size = p at *
  generalize w1.alloc (.cells #[.string nm, .int .i64 y, .int .i64 m, .int .i64 d, .int .i64 h, .int .i64 mi, .int .i64 s, .string tx] 34) = w2 at *
  refine (HIM.out tx w2 (hf.on hf.lt O2) HTM.out).mono ?_
  rintro e w3 ⟨rfl, O3⟩
  have O3t := O2.call O3
  have B3 := BA.call O3.out
  have x0 : w3.cell? ⟨p, 0, none⟩ = some (.string nm) := (B3.cell 0).trans rfl
  have x1 : w3.cell? ⟨p, 1, none⟩ = some (.int .i64 y) := (B3.cell 1).trans rfl
  have x2 : w3.cell? ⟨p, 2, none⟩ = some (.int .i64 m) := (B3.cell 2).trans rfl
  have x3 : w3.cell? ⟨p, 3, none⟩ = some (.int .i64 d) := (B3.cell 3).trans rfl
  have x4 : w3.cell? ⟨p, 4, none⟩ = some (.int .i64 h) := (B3.cell 4).trans rfl
  have x5 : w3.cell? ⟨p, 5, none⟩ = some (.int .i64 mi) := (B3.cell 5).trans rfl
  have x6 : w3.cell? ⟨p, 6, none⟩ = some (.int .i64 s) := (B3.cell 6).trans rfl
  have x7 : w3.cell? ⟨p, 7, none⟩ = some (.string tx) := (B3.cell 7).trans rfl
  go_wp2_with fail
  refine (HSP.out tx w3 HTM.out).mono ?_
  rintro e w4 ⟨rfl, O4⟩
  have O4t := O3t.call O4
  have B4 := B3.call O4.out
  clear x0 x1 x2 x3 x4 x5 x6 x7
  have x0 : w4.cell? ⟨p, 0, none⟩ = some (.string nm) := (B4.cell 0).trans rfl
  have x1 : w4.cell? ⟨p, 1, none⟩ = some (.int .i64 y) := (B4.cell 1).trans rfl
  have x2 : w4.cell? ⟨p, 2, none⟩ = some (.int .i64 m) := (B4.cell 2).trans rfl
  have x3 : w4.cell? ⟨p, 3, none⟩ = some (.int .i64 d) := (B4.cell 3).trans rfl
  have x4 : w4.cell? ⟨p, 4, none⟩ = some (.int .i64 h) := (B4.cell 4).trans rfl
  have x5 : w4.cell? ⟨p, 5, none⟩ = some (.int .i64 mi) := (B4.cell 5).trans rfl
  have x6 : w4.cell? ⟨p, 6, none⟩ = some (.int .i64 s) := (B4.cell 6).trans rfl
  have x7 : w4.cell? ⟨p, 7, none⟩ = some (.string tx) := (B4.cell 7).trans rfl
  cases hk : entryOk nm y m d h mi s tx
  · have HS2 := Lib.hid (HSP.out tx w4 HTM.out)
    rw [hk] at HS2
    go_wp2_with fail
    refine HS2.out.mono ?_
    rintro e w5 ⟨rfl, O5⟩
    go_wp2_with fail
    go_ret
    exact ⟨rfl, O4t.call O5⟩
  · have hls2 := fun t2 => HLS.out t2 hk
    have HL2 := Lib.hid hls2
    clear hk hls2
    have O5 := (On.refl w4).alloc (.cells #[.string nm, .int .i64 y, .int .i64 m, .int .i64 d, .int .i64 h, .int .i64 mi, .int .i64 s, .string tx] 34)
    have B5 := Blk.new w4 34 #[.string nm, .int .i64 y, .int .i64 m, .int .i64 d, .int .i64 h, .int .i64 mi, .int .i64 s, .string tx]
    go_upto_region 8 with fail
    clear x0 x1 x2 x3 x4 x5 x6 x7
    have hpl := B4.lt
    generalize hX : w4.heap.size = x at *
    have hwx : w.heap.size ≤ x := by have := O4t.size; omega
    generalize w4.alloc (.cells #[.string nm, .int .i64 y, .int .i64 m, .int .i64 d, .int .i64 h, .int .i64 mi, .int .i64 s, .string tx] 34) = w5 at *
    have P5 := B4.call O5.out
    have O5t := O4t.call O5
    have c7 : w5.cell? ⟨x, 7, none⟩ = some (.string tx) := (B5.cell 7).trans rfl
    have fx : w5.frozen? ⟨x, 7, none⟩ = false := B5.frozen _
    go_upto_region 9 with fail
    replace B5 := B5.set 7 (.string ⟨#[]⟩)
    simp only [List.setIfInBounds_toArray, List.set_cons_zero, List.set_cons_succ] at B5
    replace P5 := P5.far (p := ⟨x, 7, none⟩) (show p ≠ x by omega) (.string ⟨#[]⟩)
    replace O5t := O5t.set (p := ⟨x, 7, none⟩) hwx (.string ⟨#[]⟩)
    generalize w5.setCell ⟨x, 7, none⟩ (.string ⟨#[]⟩) = w6 at *
    clear c7 fx
    go_wp2_with fail
    have R0 := By.new w6
    have O6 := (On.refl w6).alloc (.cells #[] 5)
    have hxl := B5.lt
    have hp6 := P5.lt
    generalize hRR : w6.heap.size = r0 at *
    have B6 := B5.call (O6.out)
    have P6 := P5.call (O6.out)
    have O6t := O5t.call O6
    have hwr : w.heap.size ≤ r0 := by have := O5t.size; omega
    generalize w6.alloc (.cells #[] 5) = w7 at *
    go_loopw [6, 7] (fun o i wr => ∃ (r cap k : Nat), o = .slice (some ⟨r, 0, none⟩) k cap ∧ i = .int .i64 (k : Int) ∧ k ≤ 300 ∧ By wr r cap (List.replicate k 109) ∧ Blk wr x 34 #[.string nm, .int .i64 y, .int .i64 m, .int .i64 d, .int .i64 h, .int .i64 mi, .int .i64 s, .string ⟨#[]⟩] ∧ Blk wr p 34 #[.string nm, .int .i64 y, .int .i64 m, .int .i64 d, .int .i64 h, .int .i64 mi, .int .i64 s, .string tx] ∧ On w wr ∧ r0 ≤ r) (fun _ i _ => 300 - (intOf i).toNat)
    case atStart => exact ⟨r0, 0, 0, rfl, rfl, by omega, R0, B6, P6, O6t, Nat.le_refl _⟩
    case round =>
      obtain ⟨r, cap, k, rfl, rfl, hk, hBy, BX, BP, O, hr⟩ := hrel
      have hby := hBy.out
      have hlen : (List.replicate k 109).length = k := List.length_replicate
      by_cases hlt : k < 300
      · have hlt' : (k : Int) < 300 := by omega
        rw [hlen] at hby
        go_wp2_with (at_builtin; go_must (refine wpList_byte (x := 109) rfl _ _ rfl rfl hby rfl (by rw [List.length_replicate]; omega) ?_); intro r6 cap6 w8 hby6 hr6 hrl6 K6 hc1 hc2)
        rw [hlen] at hby6
        go_roundw
        case rel =>
          have hxl2 := BX.lt
          have hrl := hBy.lt
          refine ⟨r6, cap6, k + 1, rfl, by go_num, by omega, ⟨?_⟩, K6.blk BX (by simp; omega), K6.blk BP (by simp; omega), K6.on O (fun y hy => by simp at hy; omega), by omega⟩
          rw [List.replicate_succ', List.length_append, List.length_replicate]
          exact hby6
        case measure => simp [intOf]; omega
      · have hk3 : k = 300 := by omega
        have hlt' : ¬ (k : Int) < 300 := by omega
        rw [hk3] at hBy hlen
        have cvW : ∀ W, On wr W → (convert 23 9 (.slice (some ⟨r, 0, none⟩) k cap)).run Tryd.prog W = .ok (.string (strB (List.replicate 300 109))) W := fun W h => by
          have := bytes_conv (hBy.on h).out
          rw [hlen] at this
          rw [hk3]
          exact this
        have hts : (strB (List.replicate 300 109)).size = 300 := by rw [strB_size, List.length_replicate]
        have HTS := Lib.hid hts
        have HCV := Lib.hid cvW
        generalize strB (List.replicate 300 109) = t at *
        clear cvW hby hlen hk3 hBy hts
        have O8 := (On.refl wr).alloc (.cells #[.string nm, .int .i64 y, .int .i64 m, .int .i64 d, .int .i64 h, .int .i64 mi, .int .i64 s, .string tx] 34)
        have B8 := Blk.new wr 34 #[.string nm, .int .i64 y, .int .i64 m, .int .i64 d, .int .i64 h, .int .i64 mi, .int .i64 s, .string tx]
        have x0 : wr.cell? ⟨p, 0, none⟩ = some (.string nm) := (BP.cell 0).trans rfl
        have x1 : wr.cell? ⟨p, 1, none⟩ = some (.int .i64 y) := (BP.cell 1).trans rfl
        have x2 : wr.cell? ⟨p, 2, none⟩ = some (.int .i64 m) := (BP.cell 2).trans rfl
        have x3 : wr.cell? ⟨p, 3, none⟩ = some (.int .i64 d) := (BP.cell 3).trans rfl
        have x4 : wr.cell? ⟨p, 4, none⟩ = some (.int .i64 h) := (BP.cell 4).trans rfl
        have x5 : wr.cell? ⟨p, 5, none⟩ = some (.int .i64 mi) := (BP.cell 5).trans rfl
        have x6 : wr.cell? ⟨p, 6, none⟩ = some (.int .i64 s) := (BP.cell 6).trans rfl
        have x7 : wr.cell? ⟨p, 7, none⟩ = some (.string tx) := (BP.cell 7).trans rfl
        go_upto_region 15 with fail
        clear x0 x1 x2 x3 x4 x5 x6 x7
        have hxl3 := BX.lt
        have hpl3 := BP.lt
        have O8t := O.call O8
        generalize hY : wr.heap.size = yb at *
        have hwy : w.heap.size ≤ yb := by have := O.size; omega
        generalize hw8 : wr.alloc (.cells #[.string nm, .int .i64 y, .int .i64 m, .int .i64 d, .int .i64 h, .int .i64 mi, .int .i64 s, .string tx] 34) = w8 at *
        have X8 := BX.call O8.out
        have P8 := BP.call O8.out
        have c7 : w8.cell? ⟨yb, 7, none⟩ = some (.string tx) := (B8.cell 7).trans rfl
        have fx : w8.frozen? ⟨yb, 7, none⟩ = false := B8.frozen _
        have cv := HCV.out w8 O8
        go_upto_region 16 with fail
        have K9 : On wr (w8.setCell ⟨yb, 7, none⟩ (.string t)) := O8.set (p := ⟨yb, 7, none⟩) (show wr.heap.size ≤ yb by omega) (.string t)
        replace B8 := B8.set 7 (.string t)
        simp only [List.setIfInBounds_toArray, List.set_cons_zero, List.set_cons_succ] at B8
        replace X8 := X8.far (p := ⟨yb, 7, none⟩) (show x ≠ yb by omega) (.string t)
        replace P8 := P8.far (p := ⟨yb, 7, none⟩) (show p ≠ yb by omega) (.string t)
        replace O8t := O8t.set (p := ⟨yb, 7, none⟩) hwy (.string t)
        generalize w8.setCell ⟨yb, 7, none⟩ (.string t) = w9 at *
        clear c7 fx cv hw8
        have O10 := (On.refl w9).alloc (.cells #[.string nm, .int .i64 y, .int .i64 m, .int .i64 d, .int .i64 h, .int .i64 mi, .int .i64 s, .string tx] 34)
        have B10 := Blk.new w9 34 #[.string nm, .int .i64 y, .int .i64 m, .int .i64 d, .int .i64 h, .int .i64 mi, .int .i64 s, .string tx]
        have x0 : w9.cell? ⟨p, 0, none⟩ = some (.string nm) := (P8.cell 0).trans rfl
        have x1 : w9.cell? ⟨p, 1, none⟩ = some (.int .i64 y) := (P8.cell 1).trans rfl
        have x2 : w9.cell? ⟨p, 2, none⟩ = some (.int .i64 m) := (P8.cell 2).trans rfl
        have x3 : w9.cell? ⟨p, 3, none⟩ = some (.int .i64 d) := (P8.cell 3).trans rfl
        have x4 : w9.cell? ⟨p, 4, none⟩ = some (.int .i64 h) := (P8.cell 4).trans rfl
        have x5 : w9.cell? ⟨p, 5, none⟩ = some (.int .i64 mi) := (P8.cell 5).trans rfl
        have x6 : w9.cell? ⟨p, 6, none⟩ = some (.int .i64 s) := (P8.cell 6).trans rfl
        have x7 : w9.cell? ⟨p, 7, none⟩ = some (.string tx) := (P8.cell 7).trans rfl
        go_upto_region 17 with fail
        clear x0 x1 x2 x3 x4 x5 x6 x7
        have hyl := B8.lt
        have O10t := O8t.call O10
        have hxl4 := X8.lt
        generalize hZ : w9.heap.size = zb at *
        have hwz : w.heap.size ≤ zb := by have := O8t.size; omega
        have K10 := K9.call O10
        generalize w9.alloc (.cells #[.string nm, .int .i64 y, .int .i64 m, .int .i64 d, .int .i64 h, .int .i64 mi, .int .i64 s, .string tx] 34) = w10 at *
        have X10 := X8.call O10.out
        have Y10 := B8.call O10.out
        have c7 : w10.cell? ⟨zb, 7, none⟩ = some (.string tx) := (B10.cell 7).trans rfl
        have fx : w10.frozen? ⟨zb, 7, none⟩ = false := B10.frozen _
        have cv := HCV.out w10 K10
        have hadd : ¬ 9223372036854775807 < t.size + 1 := by have := HTS.out; omega
        obtain ⟨u, hu⟩ : ∃ u : ByteArray, u = t ++ ⟨#[109]⟩ := ⟨_, rfl⟩
        have hus : u.size = 301 := by rw [hu, ByteArray.size_append, HTS.out]; rfl
        go_upto_region 18 with fail
        rw [← hu]
        replace B10 := B10.set 7 (.string u)
        simp only [List.setIfInBounds_toArray, List.set_cons_zero, List.set_cons_succ] at B10
        replace X10 := X10.far (p := ⟨zb, 7, none⟩) (show x ≠ zb by omega) (.string u)
        replace Y10 := Y10.far (p := ⟨zb, 7, none⟩) (show yb ≠ zb by omega) (.string u)
        replace O10t := O10t.set (p := ⟨zb, 7, none⟩) hwz (.string u)
        have HUS := Lib.hid hus
        generalize w10.setCell ⟨zb, 7, none⟩ (.string u) = w11 at *
        clear c7 fx cv hu hus
        have E1 := Lib.hid (show entryOk nm y m d h mi s ⟨#[]⟩ = true from by rw [HL2.out]; rfl)
        have E2 := Lib.hid (show entryOk nm y m d h mi s t = true from by rw [HL2.out, HTS.out]; rfl)
        have E3 := Lib.hid (show entryOk nm y m d h mi s u = false from by rw [HL2.out, HUS.out]; rfl)
        have x0 : w11.cell? ⟨x, 0, none⟩ = some (.string nm) := (X10.cell 0).trans rfl
        have x1 : w11.cell? ⟨x, 1, none⟩ = some (.int .i64 y) := (X10.cell 1).trans rfl
        have x2 : w11.cell? ⟨x, 2, none⟩ = some (.int .i64 m) := (X10.cell 2).trans rfl
        have x3 : w11.cell? ⟨x, 3, none⟩ = some (.int .i64 d) := (X10.cell 3).trans rfl
        have x4 : w11.cell? ⟨x, 4, none⟩ = some (.int .i64 h) := (X10.cell 4).trans rfl
        have x5 : w11.cell? ⟨x, 5, none⟩ = some (.int .i64 mi) := (X10.cell 5).trans rfl
        have x6 : w11.cell? ⟨x, 6, none⟩ = some (.int .i64 s) := (X10.cell 6).trans rfl
        have x7 : w11.cell? ⟨x, 7, none⟩ = some (.string ⟨#[]⟩) := (X10.cell 7).trans rfl
        go_wp2_with fail
        refine (HIM.out ⟨#[]⟩ w11 (hf.on hf.lt O10t) (Nat.zero_le _)).mono ?_
        rintro e w12 ⟨rfl, O12⟩
        rw [E1.out]
        clear x0 x1 x2 x3 x4 x5 x6 x7
        have O12t := O10t.call O12
        have Y12 := Y10.call O12.out
        have Z12 := B10.call O12.out
        have x0 : w12.cell? ⟨yb, 0, none⟩ = some (.string nm) := (Y12.cell 0).trans rfl
        have x1 : w12.cell? ⟨yb, 1, none⟩ = some (.int .i64 y) := (Y12.cell 1).trans rfl
        have x2 : w12.cell? ⟨yb, 2, none⟩ = some (.int .i64 m) := (Y12.cell 2).trans rfl
        have x3 : w12.cell? ⟨yb, 3, none⟩ = some (.int .i64 d) := (Y12.cell 3).trans rfl
        have x4 : w12.cell? ⟨yb, 4, none⟩ = some (.int .i64 h) := (Y12.cell 4).trans rfl
        have x5 : w12.cell? ⟨yb, 5, none⟩ = some (.int .i64 mi) := (Y12.cell 5).trans rfl
        have x6 : w12.cell? ⟨yb, 6, none⟩ = some (.int .i64 s) := (Y12.cell 6).trans rfl
        have x7 : w12.cell? ⟨yb, 7, none⟩ = some (.string t) := (Y12.cell 7).trans rfl
        go_wp2_with fail
        refine (HIM.out t w12 (hf.on hf.lt O12t) (by rw [HTS.out]; decide)).mono ?_
        rintro e w13 ⟨rfl, O13⟩
        rw [E2.out]
        clear x0 x1 x2 x3 x4 x5 x6 x7
        have O13t := O12t.call O13
        have Z13 := Z12.call O13.out
        have x0 : w13.cell? ⟨zb, 0, none⟩ = some (.string nm) := (Z13.cell 0).trans rfl
        have x1 : w13.cell? ⟨zb, 1, none⟩ = some (.int .i64 y) := (Z13.cell 1).trans rfl
        have x2 : w13.cell? ⟨zb, 2, none⟩ = some (.int .i64 m) := (Z13.cell 2).trans rfl
        have x3 : w13.cell? ⟨zb, 3, none⟩ = some (.int .i64 d) := (Z13.cell 3).trans rfl
        have x4 : w13.cell? ⟨zb, 4, none⟩ = some (.int .i64 h) := (Z13.cell 4).trans rfl
        have x5 : w13.cell? ⟨zb, 5, none⟩ = some (.int .i64 mi) := (Z13.cell 5).trans rfl
        have x6 : w13.cell? ⟨zb, 6, none⟩ = some (.int .i64 s) := (Z13.cell 6).trans rfl
        have x7 : w13.cell? ⟨zb, 7, none⟩ = some (.string u) := (Z13.cell 7).trans rfl
        go_wp2_with fail
        refine (HIM.out u w13 (hf.on hf.lt O13t) (by rw [HUS.out]; decide)).mono ?_
        rintro e w14 ⟨rfl, O14⟩
        rw [E3.out]
        go_wp2_with fail
        go_ret
        exact ⟨rfl, O13t.call O14⟩
end Go.Proofs.YtpbfhflggicpiaaDoor.Nm
