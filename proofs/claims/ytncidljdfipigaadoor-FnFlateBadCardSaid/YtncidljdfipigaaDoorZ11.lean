/- Own texts joined: Sa, Ss, Sd, Sg, Sk, Sl. -/
import Derived.Deep.RegionHeld3
import Derived.Test.YtncidljdfipigaaDoorZ0
import Derived.Test.YtncidljdfipigaaDoorZ1
import Derived.Test.YtncidljdfipigaaDoorZ2
import Derived.Test.YtncidljdfipigaaDoorZ3
import Derived.Test.YtncidljdfipigaaDoorZ4
import Derived.Test.YtncidljdfipigaaDoorZ5
import Derived.Test.YtncidljdfipigaaDoorZ6
import Derived.Test.YtncidljdfipigaaDoorZ7
import Derived.Test.YtncidljdfipigaaDoorZ8
import Derived.Test.YtncidljdfipigaaDoorZ9
import Derived.Test.YtncidljdfipigaaDoorZ10
/- The specification adds to bytes what a token tells that leads back. Conditions: a row of bytes, sizes. -/
namespace Go.Proofs.YtncidljdfipigaaDoor.Wi
open Go.RowKit Go.Proofs.YtncidljdfipigaaDoor.Mem Go.Proofs.YtncidljdfipigaaDoor.Bt Go.Proofs.YtncidljdfipigaaDoor.Lz
set_option linter.unusedVariables false
set_option linter.unusedSimpArgs false
set_option maxRecDepth 100000 in
set_option maxHeartbeats 2000000 in
theorem sadd_calls (r cap n L B : Nat) (l : List Nat) (w : World) (hb : By w r cap l) (hn : l.length = n) (hn2 : n ≤ 1000) (hL : 1 ≤ L) (hL2 : L ≤ 100000) (hB2 : B ≤ 100000) :
    Calls Tryd.prog 157 #[.slice (some ⟨r, 0, none⟩) n cap, .agg #[.int .i64 0, .int .i64 (L : Int), .int .i64 (B : Int)]] w fun e w' =>
      (backOk n L B ∧ ∃ r' cap', e = .returned (.tuple #[.slice (some ⟨r', 0, none⟩) (n + L) cap', .bool true]) ∧ By w' r' cap' (copy l B L) ∧ Mb r w r' w') ∨
      (¬ backOk n L B ∧ e = .returned (.tuple #[.slice (some ⟨r, 0, none⟩) n cap, .bool false]) ∧ On w w') := by
  have HN := Lib.hid hn
  clear hn
  have hL0 : ((L : Int) == 0) = false := by simp; omega
  have BA := Blk.new w 67 #[.int .i64 0, .int .i64 (L : Int), .int .i64 (B : Int)]
  have OA := (On.refl w).alloc (.cells #[.int .i64 0, .int .i64 (L : Int), .int .i64 (B : Int)] 67)
  have hrl := hb.lt
  by_cases h1 : 3 ≤ L ∧ L ≤ 60
  · by_cases h2 : 1 ≤ B ∧ B ≤ 250
    · by_cases h3 : B ≤ n
      · have h3' : ¬ (n : Int) < (B : Int) := by omega
        have h3'' : decide ((n : Int) < (B : Int)) = false := by simp; omega
        have h3n : decide (n < B) = false := by simp; omega
        have hok : backOk n L B := by unfold backOk; omega
        go_enter Tryd.func157, Tryd.ntmps157
        go_wp2_with fail
        refine (sin_yes _ (by omega) (by omega)).mono ?_
        rintro e w2 ⟨rfl, hw⟩
        obtain rfl : _ = w2 := hw.symm
        go_wp2_with fail
        refine (sin_yes _ (by omega) (by omega)).mono ?_
        rintro e w2 ⟨rfl, hw⟩
        obtain rfl : _ = w2 := hw.symm
        have hz : w.heap.size ≠ r := by omega
        have hb1 := hb.on OA
        have hml : ∀ k, (copy l B k).length = n + k := fun k => by rw [copy_length, HN.out]
        have HML := Lib.hid hml
        have c1 : (w.alloc (.cells #[.int .i64 0, .int .i64 (L : Int), .int .i64 (B : Int)] 67)).cell? ⟨w.heap.size, 1, none⟩ = some (.int .i64 (L : Int)) := (BA.cell 1).trans rfl
        have c2 : (w.alloc (.cells #[.int .i64 0, .int .i64 (L : Int), .int .i64 (B : Int)] 67)).cell? ⟨w.heap.size, 2, none⟩ = some (.int .i64 (B : Int)) := (BA.cell 2).trans rfl
        have hbs := BA.lt
        have HOK := Lib.hid hok
        clear hml hok
        generalize w.heap.size = tb at *
        generalize w.alloc (.cells #[.int .i64 0, .int .i64 (L : Int), .int .i64 (B : Int)] 67) = w1 at *
        go_wp2_with fail
        go_loopw [0, 6] (fun o x wr => ∃ (k r' cap' : Nat), x = .int .i64 (k : Int) ∧ k ≤ L ∧ o = .slice (some ⟨r', 0, none⟩) (n + k) cap' ∧ By wr r' cap' (copy l B k) ∧ Mb r w1 r' wr) (fun _ x _ => L - (intOf x).toNat)
        case atStart => exact ⟨0, r, cap, rfl, by omega, rfl, hb1, Mb.refl _ _⟩
        case round =>
          obtain ⟨k, r', cap', rfl, hk, rfl, hB, M⟩ := hrel
          have BT := M.kp.blk BA (by simp; exact hz)
          have d1 : wr.cell? ⟨tb, 1, none⟩ = some (.int .i64 (L : Int)) := (BT.cell 1).trans rfl
          by_cases hlt : k < L
          · have hlen := HML.out k
            have hr' : tb ≠ r' := by rcases M.at_ with e | e <;> omega
            have d2 : wr.cell? ⟨tb, 2, none⟩ = some (.int .i64 (B : Int)) := (BT.cell 2).trans rfl
            have hbk := HOK.out
            unfold backOk at hbk
            have hi : n + k - B < (copy l B k).length := by rw [hlen]; omega
            have hcell := hB.cell hi
            have hst : copy l B (k + 1) = copy l B k ++ [(copy l B k).getD (n + k - B) 0] := by rw [copy, hlen]
            have hby : Bytes wr r' (.slice (some ⟨r', 0, none⟩) (n + k) cap') (copy l B k) := by have := hB.out; rw [hlen] at this; exact this
            have HST := Lib.hid hst
            have HLEN := Lib.hid hlen
            have hk2 : (k : Int) < L := by omega
            clear hst hlen hi hbk
            generalize copy l B k = lk at *
            generalize lk.getD (n + k - B) 0 = x at *
            obtain ⟨m, hm⟩ : ∃ m, n + k = m := ⟨_, rfl⟩
            have e1 : IntKind.i64.wrap ((m : Int) - (B : Int)) = ((m - B : Nat) : Int) := by have := HOK.out; unfold backOk at this; rw [IntKind.wrap_i64]; omega
            have e2 : ((m - B : Nat) : Int) < m := by have := HOK.out; unfold backOk at this; omega
            rw [hm] at hcell hby ⊢
            have HM := Lib.hid hm
            have hmle : m ≤ 101000 := by omega
            clear hm
            generalize m - B = mb at *
            go_wp2_with (at_builtin; go_must (refine wpList_byte (x := x) rfl _ _ rfl rfl hby rfl (by rw [HLEN.out, HM.out]; omega) ?_); intro r2 cap2 w2 hby2 hr2 hrl2 K2 hc1 hc2)
            go_roundw
            case rel =>
              refine ⟨k + 1, r2, cap2, by go_num, by omega, ?_, ?_, ?_⟩
              · rw [HLEN.out]; rfl
              · rw [HST.out]
                refine ⟨?_⟩
                rw [List.length_append]
                exact hby2
              · exact M.trans ⟨K2, hr2⟩
            case measure => simp [intOf]; omega
          · obtain rfl : k = L := by omega
            go_wp2_with fail
            go_ret2
            refine .inl ⟨HOK.out, r', cap', rfl, hB, ?_⟩
            refine ⟨(Kp.of [r] OA).then M.kp, ?_⟩
            have := OA.size
            rcases M.at_ with e | e <;> omega
      · have h3' : (n : Int) < (B : Int) := by omega
        go_enter Tryd.func157, Tryd.ntmps157
        go_wp2_with fail
        refine (sin_yes _ (by omega) (by omega)).mono ?_
        rintro e w2 ⟨rfl, hw⟩
        obtain rfl : _ = w2 := hw.symm
        go_wp2_with fail
        refine (sin_yes _ (by omega) (by omega)).mono ?_
        rintro e w2 ⟨rfl, hw⟩
        obtain rfl : _ = w2 := hw.symm
        go_wp2_with fail
        go_ret2
        exact .inr ⟨fun h => by unfold backOk at h; omega, rfl, OA⟩
    · go_enter Tryd.func157, Tryd.ntmps157
      go_wp2_with fail
      refine (sin_yes _ (by omega) (by omega)).mono ?_
      rintro e w2 ⟨rfl, hw⟩
      obtain rfl : _ = w2 := hw.symm
      go_wp2_with fail
      refine (sin_no _ (by omega)).mono ?_
      rintro e w2 ⟨rfl, hw⟩
      obtain rfl : _ = w2 := hw.symm
      go_wp2_with fail
      go_ret2
      exact .inr ⟨fun h => by unfold backOk at h; omega, rfl, OA⟩
  · go_enter Tryd.func157, Tryd.ntmps157
    go_wp2_with fail
    refine (sin_no _ (by omega)).mono ?_
    rintro e w2 ⟨rfl, hw⟩
    obtain rfl : _ = w2 := hw.symm
    go_wp2_with fail
    go_ret2
    exact .inr ⟨fun h => by unfold backOk at h; omega, rfl, OA⟩
end Go.Proofs.YtncidljdfipigaaDoor.Wi

/- The specification's reader takes a symbol. Conditions: a reader, lengths and their codes. -/
namespace Go.Proofs.YtncidljdfipigaaDoor.Wi
open Go.RowKit Go.Proofs.YtncidljdfipigaaDoor.Mem Go.Proofs.YtncidljdfipigaaDoor.Bt Go.Proofs.YtncidljdfipigaaDoor.Cd Go.Proofs.YtncidljdfipigaaDoor.De
set_option linter.unusedVariables false
set_option linter.unusedSimpArgs false
/-- What symbol leaves. -/
structure SymOut (lens : List Nat) (n : Nat) (s : ByteArray) (p : Nat) (b : Bool) (g : Nat) (w : World) (e : Ending) (w' : World) : Prop where mk ::
  out : ∃ (v : Int) (x p' : Nat) (b' : Bool), e = .returned (.int .i64 v) ∧ SR w' g s p' b' ∧ Ans (sym lens) s p b x p' b' ∧ (b' = false → v = x ∧ x < n) ∧ -1 ≤ v ∧ v ≤ n ∧ Kp [g] w w'
theorem find_not {lens : List Nat} {l c : Nat} (h : ∀ j, j < lens.length → ¬ (lens.getD j 0 = l ∧ code lens j = c)) : find lens l c = none := by
  unfold find
  refine List.find?_eq_none.2 fun j hj => ?_
  simpa using h j (by simpa using hj)
set_option maxRecDepth 100000 in
set_option maxHeartbeats 2000000 in
theorem ssymbol_calls (lens : List Nat) (g n gl ol cl ga ca : Nat) (s : ByteArray) (p : Nat) (b : Bool) (w : World) (hw : SR w g s p b) (hl : RowO w gl ol 3 (i64s lens)) (ha : RowO w ga 0 3 (i64s (codes lens)))
    (hn : lens.length = n) (hn2 : n ≤ 1000) (hc : n ≤ cl) (hca : n ≤ ca) (fl : gl ≠ g) (fa : ga ≠ g) :
    Calls Tryd.prog 150 #[.pointer (some ⟨g, 0, none⟩), .slice (some ⟨gl, ol, none⟩) n cl, .slice (some ⟨ga, 0, none⟩) n ca] w fun e w' => SymOut lens n s p b g w e w' := by
  have HN := Lib.hid hn
  have HF1 := Lib.hid fl
  have HF2 := Lib.hid fa
  clear hn fl fa
  go_enter Tryd.func150, Tryd.ntmps150
  go_wp2_with fail
  go_loopw [7, 8] (fun y x wr => ∃ (l c q : Nat) (b' : Bool), x = .int .i64 (l : Int) ∧ 1 ≤ l ∧ l ≤ 16 ∧ y = .int .i64 (c : Int) ∧ RowKit.Hid (c < 2 ^ (l - 1)) ∧ SR wr g s q b' ∧ Kp [g] w wr ∧ (b' = true → b = true ∨ sym lens (rest s p) = none) ∧ (b' = false → b = false ∧ sym lens (rest s p) = symGo lens (16 - l) l c (rest s q))) (fun _ x _ => 16 - (intOf x).toNat)
  case atStart => exact ⟨1, 0, p, b, rfl, by omega, by omega, rfl, Lib.hid (by decide), hw, Kp.refl _ _, fun e => .inl e, fun e => ⟨e, rfl⟩⟩
  case round =>
    obtain ⟨l, c, q, b', rfl, hl1, hl16, rfl, HC, hr, K, hbad, hgood⟩ := hrel
    have c2 : wr.cell? ⟨g, 2, none⟩ = some (.bool b') := (hr.out.cell 2).trans rfl
    have fr : ∀ i, wr.frozen? ⟨g, i, none⟩ = false := hr.out.frozen
    cases hb' : b' with
    | true =>
      rw [hb'] at c2 hr hbad
      have HB := Lib.hid (hbad rfl)
      clear hbad hgood
      by_cases hlt : l ≤ 15
      · have hlt' : (l : Int) ≤ 15 := by omega
        go_wp2_with fail
        go_ret
        exact ⟨-1, 0, q, true, rfl, ⟨hr.out.set 2 (.bool true), hr.le, hr.sz⟩, ⟨fun _ => HB.out, fun e => (by cases e)⟩, fun e => (by cases e), by omega, by omega, K.set (.inl (by simp)) _⟩
      · have hlt' : decide ((l : Int) ≤ 15) = false := by simp; omega
        go_wp2_with fail
        go_ret
        exact ⟨-1, 0, q, true, rfl, ⟨hr.out.set 2 (.bool true), hr.le, hr.sz⟩, ⟨fun _ => HB.out, fun e => (by cases e)⟩, fun e => (by cases e), by omega, by omega, K.set (.inl (by simp)) _⟩
    | false =>
      rw [hb'] at c2 hr hgood
      obtain ⟨g1, g2⟩ := hgood rfl
      have HG2 := Lib.hid g2
      clear hbad hgood g2
      by_cases hlt : l ≤ 15
      · have hlt' : (l : Int) ≤ 15 := by omega
        have hp : 2 ^ (l - 1) ≤ 2 ^ 14 := Nat.pow_le_pow_right (by omega) (by omega)
        have hp2 : 2 ^ (l + 1 - 1) = 2 * 2 ^ (l - 1) := by rw [show l + 1 - 1 = (l - 1) + 1 from by omega, Nat.pow_succ, Nat.mul_comm]
        have hx := numAt_lt s q 1
        have HCb := Lib.hid (sbit_calls g s q false wr hr)
        have hql := hr.le
        obtain ⟨x, hxx⟩ : ∃ x, numAt s q 1 = x := ⟨_, rfl⟩
        rw [hxx] at hx
        have HX := Lib.hid hxx
        have hcl := HC.out
        have e1 : IntKind.i64.wrap (2 * (c : Int)) = 2 * (c : Int) := by rw [IntKind.wrap_i64]; omega
        have e2 : IntKind.i64.wrap (2 * (c : Int) + (x : Int)) = ((2 * c + x : Nat) : Int) := by rw [IntKind.wrap_i64]; omega
        have hc2 : 2 * c + x < 2 * 2 ^ (l - 1) := by omega
        rw [← hp2] at hc2
        have HC2 := Lib.hid hc2
        have hgood2 : (false || decide (8 * s.size < q + 1)) = false → sym lens (rest s p) = match find lens l (2 * c + x) with
            | some k => some (k, rest s (min (q + 1) (8 * s.size)))
            | none => symGo lens (16 - (l + 1)) (l + 1) (2 * c + x) (rest s (min (q + 1) (8 * s.size))) := fun e => by
          simp only [Bool.or_eq_false_iff, decide_eq_false_iff_not] at e
          rw [HG2.out, show 16 - l = (16 - (l + 1)) + 1 from by omega, symGo_step (by omega), HX.out, Nat.min_eq_left (by omega)]
          cases find lens l (2 * c + x) <;> rfl
        have hbad2 : (false || decide (8 * s.size < q + 1)) = true → sym lens (rest s p) = none := fun e => by
          simp only [Bool.or_eq_true, decide_eq_true_eq] at e
          rw [HG2.out]
          exact symGo_end (by rcases e with e | e; · cases e
                              · omega)
        obtain ⟨cx, hcx⟩ : ∃ cx, 2 * c + x = cx := ⟨_, rfl⟩
        rw [hcx] at e2 hgood2 HC2
        have HGD := Lib.hid hgood2
        have HBD := Lib.hid hbad2
        clear hgood2 hbad2 hp hp2 hc2 hcx hxx hcl
        have K0 := K
        go_wp2_with fail
        refine HCb.out.mono ?_
        rintro e w2 ⟨rfl, hr2, K2⟩
        rw [HX.out]
        generalize hbb : (false || decide (8 * s.size < q + 1)) = bb at *
        generalize hqq : min (q + 1) (8 * s.size) = qq at *
        have K3 := K.then K2
        have hl2 := hl.kp K3 (by simpa using HF1.out)
        have ha2 := ha.kp K3 (by simpa using HF2.out)
        go_wp2_with fail
        go_loopw [9] (fun x w3 => ∃ i : Nat, x = .int .i64 (i : Int) ∧ i ≤ n ∧ w3 = w2 ∧ ∀ j, j < i → ¬ (lens.getD j 0 = l ∧ code lens j = cx)) (fun x _ => n - (intOf x).toNat)
        case atStart => exact ⟨0, rfl, by omega, rfl, fun j hj => by omega⟩
        case round =>
          obtain ⟨i, rfl, hi, hw3, hno⟩ := hrel
          obtain rfl : w2 = wr := hw3.symm
          have HNO := Lib.hid hno
          clear hno
          by_cases hin : i < n
          · have hin' : (i : Int) < n := by omega
            have hil : i < lens.length := by rw [HN.out]; exact hin
            have d0 := hl2.cell (i64s_get hil)
            have d1 := ha2.cell (i64s_get (l := codes lens) (i := i) (by rw [codes_length]; exact hil))
            rw [codes_getD lens hil] at d1
            obtain ⟨y, hy⟩ : ∃ y, lens.getD i 0 = y := ⟨_, rfl⟩
            obtain ⟨z, hz⟩ : ∃ z, code lens i = z := ⟨_, rfl⟩
            rw [hy] at d0
            rw [hz] at d1
            have HY := Lib.hid hy
            have HZ := Lib.hid hz
            clear hy hz
            rw [Nat.zero_add] at d1
            by_cases hyl : y = l
            · by_cases hzc : z = cx
              · have hyl' : ((y : Int) == (l : Int)) = true := by simp; omega
                have hzc' : ((z : Int) == (cx : Int)) = true := by simp; omega
                have hf := find_is hil (HY.out.trans hyl) (HZ.out.trans hzc) hl1 (by omega)
                have HF := Lib.hid hf
                clear hf
                go_wp2_with fail
                go_ret
                refine ⟨i, i, qq, bb, rfl, hr2, ⟨fun e => .inr (HBD.out e), fun e => ⟨(by first | exact g1 | rfl), ?_⟩⟩, fun _ => ⟨rfl, hin⟩, by omega, by omega, K3⟩
                have := HGD.out e
                rw [HF.out] at this
                exact this
              · have hyl' : ((y : Int) == (l : Int)) = true := by simp; omega
                have hzc' : ((z : Int) == (cx : Int)) = false := by simp; omega
                go_wp2_with fail
                go_roundw
                case rel => exact ⟨i + 1, by go_num, by omega, (by first | rfl | trivial), fun j hj => (by
                  rcases Nat.lt_or_ge j i with h | h
                  · exact HNO.out j h
                  · obtain rfl : j = i := by omega
                    rw [HZ.out]; exact fun h => hzc h.2)⟩
                case measure => simp [intOf]; omega
            · have hyl' : ((y : Int) == (l : Int)) = false := by simp; omega
              go_wp2_with fail
              go_roundw
              case rel => exact ⟨i + 1, by go_num, by omega, (by first | rfl | trivial), fun j hj => (by
                rcases Nat.lt_or_ge j i with h | h
                · exact HNO.out j h
                · obtain rfl : j = i := by omega
                  rw [HY.out]; exact fun h => hyl h.1)⟩
              case measure => simp [intOf]; omega
          · obtain rfl : i = n := by omega
            have hf : find lens l cx = none := find_not (fun j hj => HNO.out j (by rw [← HN.out]; exact hj))
            have HF := Lib.hid hf
            clear hf
            go_wp2_with fail
            go_roundw
            case rel =>
              refine ⟨l + 1, cx, qq, bb, by go_num, by omega, by omega, rfl, Lib.hid HC2.out, hr2, K3, fun e => .inr (HBD.out e), fun e => ⟨(by first | exact g1 | rfl), ?_⟩⟩
              have := HGD.out e
              rw [HF.out] at this
              exact this
            case measure => simp [intOf]; omega
      · have hlt' : decide ((l : Int) ≤ 15) = false := by simp; omega
        obtain rfl : l = 16 := by omega
        go_wp2_with fail
        go_ret
        exact ⟨-1, 0, q, true, rfl, ⟨hr.out.set 2 (.bool true), hr.le, hr.sz⟩, ⟨fun _ => .inr HG2.out, fun e => (by cases e)⟩, fun e => (by cases e), by omega, by omega, K.set (.inl (by simp)) _⟩
end Go.Proofs.YtncidljdfipigaaDoor.Wi

/- The specification's reader takes a part that is not packed. Conditions: a reader, a row of bytes. -/
namespace Go.Proofs.YtncidljdfipigaaDoor.Wi
open Go.RowKit Go.Proofs.YtncidljdfipigaaDoor.Mem Go.Proofs.YtncidljdfipigaaDoor.Bt Go.Proofs.YtncidljdfipigaaDoor.Cd Go.Proofs.YtncidljdfipigaaDoor.De
set_option linter.unusedVariables false
set_option linter.unusedSimpArgs false
/-- What a call of the specification's reader leaves that adds to bytes: all but the reader's block and the row's; what it has taken is told where the bytes ahead were no more than may be. -/
structure SOut (d : Dec (List Nat)) (s : ByteArray) (p : Nat) (b : Bool) (l : List Nat) (g r : Nat) (w : World) (e : Ending) (w' : World) : Prop where mk ::
  out : ∃ (p' : Nat) (b' : Bool) (r' cap' : Nat) (l' : List Nat), e = .returned (.slice (some ⟨r', 0, none⟩) l'.length cap') ∧ SR w' g s p' b' ∧ By w' r' cap' l' ∧ Kp [g, r] w w' ∧ (r' = r ∨ w.heap.size ≤ r') ∧ (l.length ≤ 300 → AnsO d s p b l' p' b') ∧ l.length ≤ l'.length ∧ l'.length ≤ l.length + 400 ∧ (b' = false → b = false ∧ (p ≤ p' ∨ l'.length ≤ 300))
set_option maxRecDepth 100000 in
set_option maxHeartbeats 1000000 in
theorem sstored_calls (g r cap n : Nat) (s : ByteArray) (p : Nat) (b : Bool) (l : List Nat) (w : World) (hw : SR w g s p b) (hb : By w r cap l) (hn : l.length = n) (hn2 : n ≤ 90000000) (hgr : g ≠ r) :
    Calls Tryd.prog 135 #[.pointer (some ⟨g, 0, none⟩), .slice (some ⟨r, 0, none⟩) n cap] w fun e w' => SOut (De.stored l) s p b l g r w e w' := by
  have HN := Lib.hid hn
  clear hn
  have HE := Lib.hid (swhole_calls g s p b w hw)
  have A1 := Lib.hid (ans_align (b := b) hw.le)
  have hp := hw.le
  have hgl := hw.out.lt
  have hrl := hb.lt
  go_enter Tryd.func135, Tryd.ntmps135
  go_wp2_with fail
  refine HE.out.mono ?_
  rintro e w1 ⟨rfl, hw1, K1⟩
  have hb1 := hb.kp K1 (by simpa using Ne.symm hgr)
  have hpe : p ≤ evenAt p := by unfold evenAt; omega
  generalize hq1 : evenAt p = q1 at *
  have W2 : ∃ w2 x1, (x1 = (b || !padOk s p)) ∧ SR w2 g s q1 x1 ∧ By w2 r cap l ∧ Kp [g] w w2 ∧ w2 = (if padOk s p = true then w1 else w1.setCell ⟨g, 2, none⟩ (.bool true)) := by
    cases hpo : padOk s p with
    | true => exact ⟨w1, b, by simp, hw1, hb1, K1, rfl⟩
    | false =>
      have K := K1.set (p := ⟨g, 2, none⟩) (.inl (by simp)) (.bool true)
      exact ⟨_, true, by simp, ⟨hw1.out.set 2 (.bool true), hw1.le, hw1.sz⟩, hb.kp K (by simpa using Ne.symm hgr), K, rfl⟩
  obtain ⟨w2, x1, hx1, hw2, hb2, K2, hw2e⟩ := W2
  rw [← hx1] at A1
  have c2 : w1.cell? ⟨g, 2, none⟩ = some (.bool b) := (hw1.out.cell 2).trans rfl
  have fr1 : ∀ i, w1.frozen? ⟨g, i, none⟩ = false := hw1.out.frozen
  have HX1 := Lib.hid hx1
  clear hx1
  have A2 := Lib.hid (ans_num (n := 16) (b := x1) hw2.le)
  have HE2 := Lib.hid (snum_calls g 16 s q1 x1 w2 hw2 (by omega))
  have hm1 := numAt_lt s q1 16
  generalize hq2 : min (q1 + 16) (8 * s.size) = q2 at *
  generalize hx2 : (x1 || decide (8 * s.size < q1 + 16)) = x2 at *
  generalize numAt s q1 16 = m at *
  cases hpo : padOk s p
  all_goals
    rw [hpo] at hw2e
    simp only [if_true, Bool.false_eq_true, if_false] at hw2e
    go_wp2_with fail
    rw [← hw2e]
    refine HE2.out.mono ?_
    rintro e w3 ⟨rfl, hw3, K3⟩
    clear hw2e c2 fr1
    have hb3 := hb2.kp K3 (by simpa using Ne.symm hgr)
    have A3 := Lib.hid (ans_num (n := 16) (b := x2) hw3.le)
    have HE3 := Lib.hid (snum_calls g 16 s q2 x2 w3 hw3 (by omega))
    have hm2 := numAt_lt s q2 16
    generalize hq3 : min (q2 + 16) (8 * s.size) = q at *
    generalize hx3 : (x2 || decide (8 * s.size < q2 + 16)) = x3 at *
    generalize numAt s q2 16 = mm at *
    go_wp2_with fail
    refine HE3.out.mono ?_
    rintro e w4 ⟨rfl, hw4, K4⟩
    have hb4 := hb3.kp K4 (by simpa using Ne.symm hgr)
    have hfin : ∀ (l' : List Nat) (p' : Nat) (b' : Bool), AnsO (if m + mm = 65535 ∧ l.length + m ≤ 300 then next (De.bytes m) fun x => ret (l ++ x) else De.bad) s q x3 l' p' b' → AnsO (De.stored l) s p b l' p' b' := fun l' p' b' h =>
      AnsO.next A1.out (AnsO.next A2.out (AnsO.next A3.out h))
    have HF := Lib.hid hfin
    have HK : RowKit.Hid (Kp [g, r] w w4) := Lib.hid (((K2.then K3).then K4).mono (fun x hx => .inl (by simp at hx ⊢; exact .inl hx)))
    have e1 : IntKind.i64.wrap (65535 - (m : Int)) = ((65535 - m : Nat) : Int) := by rw [IntKind.wrap_i64]; omega
    obtain ⟨D, hD⟩ : ∃ D : Dec (List Nat), D = (if m + mm = 65535 ∧ l.length + m ≤ 300 then next (De.bytes m) fun x => ret (l ++ x) else De.bad) := ⟨_, rfl⟩
    rw [← hD] at HF
    have hbad : 8 * s.size < q + 8 * m → D (rest s q) = none := fun hlt => by
      rw [hD]
      split
      · exact next_none (by unfold De.bytes; rw [if_neg (by rw [rest_length]; omega)])
      · rfl
    have hgood : m + mm = 65535 → q + 8 * m ≤ 8 * s.size → n + m ≤ 300 → D (rest s q) = some (l ++ packN m (rest s q), rest s (q + 8 * m)) := fun h1 h2 h3 => by
      rw [hD, if_pos ⟨h1, by rw [HN.out]; exact h3⟩]
      rw [next_some (x := packN m (rest s q)) (r := rest s (q + 8 * m)) (by unfold De.bytes; rw [if_pos (by rw [rest_length]; omega), rest_drop])]; rfl
    have hover : 300 < n + m → D (rest s q) = none := fun h => by rw [hD, if_neg (by rw [HN.out]; omega)]; rfl
    have hne : m + mm ≠ 65535 → D (rest s q) = none := fun h => by rw [hD, if_neg (fun hh => h hh.1)]; rfl
    have HPK := Lib.hid (packN_snoc s q)
    have HLEN := Lib.hid (show ∀ k, (l ++ packN k (rest s q)).length = n + k from fun k => by rw [List.length_append, packN_length, HN.out])
    have FIN := Lib.hid (show ∀ (k : Nat) (x4 : Bool), (x4 = false → m + mm = 65535 ∧ x3 = false) → (x4 = true → x3 = true ∨ D (rest s q) = none) → k ≤ m → ((x4 || decide (8 * s.size < q + 8 * k)) = true ∨ k = m) →
        AnsO (De.stored l) s p b (l ++ packN k (rest s q)) (min (q + 8 * k) (8 * s.size)) (x4 || decide (8 * s.size < q + 8 * k)) from fun k x4 hx4 hy4 hk hc => by
      have hlk := HLEN.out k
      refine HF.out _ _ _ ⟨fun e => ?_, fun e => ?_⟩
      · simp only [Bool.or_eq_true, decide_eq_true_eq] at e
        rcases e with e | e
        · exact hy4 e
        · exact .inr (hbad (by omega))
      · have e' := e
        simp only [Bool.or_eq_false_iff, decide_eq_false_iff_not] at e'
        rw [hlk, Nat.min_eq_left (by omega)]
        obtain ⟨a1, a2⟩ := hx4 e'.1
        rcases hc with hc | hc
        · rw [e] at hc; cases hc
        · subst hc
          refine ⟨a2, fun h3 => hgood a1 (by omega) h3, fun h3 => hover h3⟩)
    clear A1 A2 A3 HE HE2 HE3 hbad hgood HX1
    have fr : ∀ i, w4.frozen? ⟨g, i, none⟩ = false := hw4.out.frozen
    have c2 : w4.cell? ⟨g, 2, none⟩ = some (.bool x3) := (hw4.out.cell 2).trans rfl
    obtain ⟨ba, hA'⟩ : ∃ ba, ((mm : Int) != ((65535 - m : Nat) : Int)) = ba := ⟨_, rfl⟩
    obtain ⟨bb, hB'⟩ : ∃ bb, decide ((300 : Int) < (m : Int)) = bb := ⟨_, rfl⟩
    have hba : ba = true ↔ m + mm ≠ 65535 := by rw [← hA']; simp; omega
    have hbb : bb = true ↔ 300 < m := by rw [← hB']; simp; omega
    have W5 : ∃ w5 x4, (x4 = false → m + mm = 65535 ∧ x3 = false) ∧ (x4 = true → x3 = true ∨ D (rest s q) = none) ∧ (x4 = false → m ≤ 300) ∧ SR w5 g s q x4 ∧ By w5 r cap l ∧ Kp [g, r] w w5 ∧ w5 = (if (ba || bb) = true then w4.setCell ⟨g, 2, none⟩ (.bool true) else w4) := by
      cases hab : (ba || bb) with
      | false =>
        rw [Bool.or_eq_false_iff] at hab
        have h1 : m + mm = 65535 := by have := hba; rw [hab.1] at this; simp at this; exact this
        have h2 : m ≤ 300 := by have := hbb; rw [hab.2] at this; simp at this; omega
        exact ⟨w4, x3, fun e => ⟨h1, e⟩, fun e => .inl e, fun _ => h2, hw4, hb4, HK.out, by simp⟩
      | true =>
        have hX : D (rest s q) = none := by
          rw [Bool.or_eq_true] at hab
          rcases hab with h | h
          · exact hne (hba.1 h)
          · exact hover (by have := hbb.1 h; omega)
        have K45 : Kp [g] w4 (w4.setCell ⟨g, 2, none⟩ (.bool true)) := (Kp.refl _ _).set (.inl (by simp)) _
        exact ⟨_, true, fun e => (by cases e), fun _ => .inr hX, fun e => (by cases e), ⟨hw4.out.set 2 (.bool true), hw4.le, hw4.sz⟩, hb4.kp K45 (by simpa using Ne.symm hgr), HK.out.set (.inl (by simp)) _, by simp⟩
    obtain ⟨w5, x4, F1, F2, F3, R5, B5, K5, hw5e⟩ := W5
    have H1 := Lib.hid F1
    have H2 := Lib.hid F2
    have H3 := Lib.hid F3
    have HK5 := Lib.hid K5
    have HMM := Lib.hid hm1
    clear F1 F2 F3 K5 hba hbb hover hne hD hm1 hm2
    generalize 65535 - m = mx at *
    cases ba <;> cases bb
    all_goals
      simp only [Bool.or_true, Bool.or_false, if_true, Bool.false_eq_true, if_false] at hw5e
      go_wp2_with fail
      rw [← hw5e]
      clear hw5e fr c2 hA' hB'
      go_loopw [1, 6] (fun o x wr => ∃ (k r' cap' : Nat), x = .int .i64 (k : Int) ∧ k ≤ m ∧ o = .slice (some ⟨r', 0, none⟩) (n + k) cap' ∧ SR wr g s (min (q + 8 * k) (8 * s.size)) (x4 || decide (8 * s.size < q + 8 * k)) ∧ By wr r' cap' (l ++ packN k (rest s q)) ∧ Kp [g, r] w5 wr ∧ (r' = r ∨ w5.heap.size ≤ r') ∧ g ≠ r' ∧ k ≤ 300) (fun _ x _ => m - (intOf x).toNat)
      case atStart =>
        refine ⟨0, r, cap, rfl, by omega, rfl, ?_, ?_, Kp.refl _ _, .inl rfl, hgr, by omega⟩
        · rw [Nat.mul_zero, Nat.add_zero, Nat.min_eq_left R5.le, show decide (8 * s.size < q) = false from by simp; exact R5.le, Bool.or_false]
          exact R5
        · simpa [packN] using B5
      case round =>
        obtain ⟨k, r', cap', rfl, hk, rfl, hr, hB, K, hr', hgr', hk3⟩ := hrel
        have hlk := HLEN.out k
        have HFI := Lib.hid (FIN.out k x4 H1.out H2.out hk)
        have hKK := HK5.out.then K
        have hrw : r' = r ∨ w.heap.size ≤ r' := by have := HK5.out.size; omega
        have hby : Bytes wr r' (.slice (some ⟨r', 0, none⟩) (n + k) cap') (l ++ packN k (rest s q)) := by have := hB.out; rw [hlk] at this; exact this
        have HP := Lib.hid (HPK.out k)
        have HG := Lib.hid (snum_calls g 8 s _ _ wr hr (by omega))
        have HLK := Lib.hid hlk
        have hx8 := numAt_lt s (q + 8 * k) 8
        have hmn : numAt s (min (q + 8 * k) (8 * s.size)) 8 = numAt s (q + 8 * k) 8 := numAt_min s _ _
        rw [hmn] at HG
        have c2 : wr.cell? ⟨g, 2, none⟩ = some (.bool (x4 || decide (8 * s.size < q + 8 * k))) := (hr.out.cell 2).trans rfl
        have hrl4 := hr.le
        clear hlk hmn
        generalize hbx : (x4 || decide (8 * s.size < q + 8 * k)) = bx at *
        have HBX := Lib.hid hbx
        clear hbx
        generalize numAt s (q + 8 * k) 8 = x at *
        have hslice : (l ++ packN k (rest s q)).length = n + k := HLK.out
        by_cases hkm : k = m
        · subst hkm
          go_wp2_with fail
          go_ret
          exact ⟨_, bx, r', cap', _, by rw [HLK.out]; rfl, hr, hB, hKK, hrw, fun _ => HFI.out (by first | exact .inr rfl | exact .inr trivial), by rw [HLK.out, HN.out]; omega, by rw [HLK.out, HN.out]; omega, fun e => ⟨((HFI.out (by first | exact .inr rfl | exact .inr trivial)).good e).1, .inl (by omega)⟩⟩
        · have hkm' : (k : Int) < m := by omega
          cases bx with
          | true =>
            go_wp2_with fail
            go_ret
            exact ⟨_, true, r', cap', _, by rw [HLK.out]; rfl, hr, hB, hKK, hrw, fun _ => HFI.out (by first | exact .inl rfl | exact .inl trivial), by rw [HLK.out, HN.out]; omega, by rw [HLK.out, HN.out]; omega, fun e => (by cases e)⟩
          | false =>
            have hm300 : m ≤ 300 := H3.out (by have := HBX.out; simp only [Bool.or_eq_false_iff] at this; exact this.1)
            have hu8 : IntKind.u8.wrap (x : Int) = (x : Int) := wr_u8 _ (by omega) (by omega)
            go_wp2_with fail
            refine HG.out.mono ?_
            rintro e w6 ⟨rfl, hr6, K6⟩
            have hby6 := hby.kp K6 (by simpa using Ne.symm hgr')
            go_wp2_with (at_builtin; go_must (refine wpList_byte (x := x) rfl _ _ rfl rfl hby6 rfl (by rw [HLK.out]; omega) ?_); intro r7 cap7 w7 hby7 hr7 hrl7 K7 hc1 hc2)
            go_roundw
            case rel =>
              have hz := K.size
              have hz6 := K6.size
              have hgl5 := R5.out.lt
              have hg7 : g ≠ r7 := by rcases hr7 with e | e <;> omega
              refine ⟨k + 1, r7, cap7, by go_num, by omega, ?_, ?_, ?_, ?_, by omega, hg7, by omega⟩
              · first | rfl | (rw [HLK.out]; rfl)
              · have hr7' := hr6.kp K7 (by simpa using hgr')
                have e1 : min (min (q + 8 * k) (8 * s.size) + 8) (8 * s.size) = min (q + 8 * (k + 1)) (8 * s.size) := by omega
                have e2 : (false || decide (8 * s.size < min (q + 8 * k) (8 * s.size) + 8)) = (x4 || decide (8 * s.size < q + 8 * (k + 1))) := by
                  have hb0 := HBX.out
                  simp only [Bool.or_eq_false_iff, decide_eq_false_iff_not] at hb0
                  rw [hb0.1, Bool.eq_iff_iff]; simp; omega
                rw [e1, e2] at hr7'
                exact hr7'
              · rw [HP.out, ← List.append_assoc]
                refine ⟨?_⟩
                rw [List.length_append]
                exact hby7
              · refine (K.then (K6.mono (fun y hy => .inl (by simp at hy ⊢; exact .inl hy)))).trans K7 (fun y hy => ?_)
                simp at hy ⊢; omega
            case measure => simp [intOf]; omega
end Go.Proofs.YtncidljdfipigaaDoor.Wi

/- The specification's reader takes a length and a distance. Conditions: a reader that is not bad, bytes, lengths and codes. -/
namespace Go.Proofs.YtncidljdfipigaaDoor.Wi
open Go.RowKit Go.Proofs.YtncidljdfipigaaDoor.Mem Go.Proofs.YtncidljdfipigaaDoor.Bt Go.Proofs.YtncidljdfipigaaDoor.Cd Go.Proofs.YtncidljdfipigaaDoor.De
open Go.Proofs.YtncidljdfipigaaDoor.Lz (copy copy_length)
set_option linter.unusedVariables false
set_option linter.unusedSimpArgs false
/-- A row that a call made: so many numbers. -/
def GivesN (w : World) (n : Nat) (l : List Nat) (e : Ending) (w' : World) : Prop := ∃ r cap, e = .returned (.slice (some ⟨r, 0, none⟩) n cap) ∧ RowO w' r 0 3 (i64s l) ∧ n ≤ cap ∧ w.heap.size ≤ r ∧ r < w'.heap.size ∧ On w w'
theorem GivesI.toN {w w' : World} {l : List Nat} {e : Ending} {n : Nat} (h : GivesI w l e w') (hn : l.length = n) : GivesN w n l e w' := by
  obtain ⟨r, cap, rfl, N, h1, h2, O⟩ := h
  subst hn
  exact ⟨r, cap, rfl, N.row.1.toO, N.row.2.2.1, h1, h2, O⟩
theorem slong28 (w : World) : Calls Tryd.prog 122 #[] w (GivesN w 28 longBits) := (slong_calls w).mono fun _ _ h => GivesI.toN h rfl
theorem sback30 (w : World) : Calls Tryd.prog 123 #[] w (GivesN w 30 backBits) := (sback_calls w).mono fun _ _ h => GivesI.toN h rfl
theorem slbase (r cap : Nat) (w : World) (hR : RowO w r 0 3 (i64s longBits)) (hc : 28 ≤ cap) : Calls Tryd.prog 121 #[.slice (some ⟨r, 0, none⟩) 28 cap, .int .i64 3] w (GivesN w 28 longBase) :=
  (sbase_calls longBits r 0 28 cap 3 w hR rfl (by omega) hc (by decide) (by omega)).mono fun _ _ h => GivesI.toN h rfl
theorem sbbase (r cap : Nat) (w : World) (hR : RowO w r 0 3 (i64s backBits)) (hc : 30 ≤ cap) : Calls Tryd.prog 121 #[.slice (some ⟨r, 0, none⟩) 30 cap, .int .i64 1] w (GivesN w 30 backBase) :=
  (sbase_calls backBits r 0 30 cap 1 w hR rfl (by omega) hc (by decide) (by omega)).mono fun _ _ h => GivesI.toN h rfl
/-- What again leaves: as SOut, and more bytes than before where it is not bad. -/
structure AOut (d : Dec (List Nat)) (s : ByteArray) (p : Nat) (b : Bool) (l : List Nat) (g r : Nat) (w : World) (e : Ending) (w' : World) : Prop where mk ::
  out : ∃ (p' : Nat) (b' : Bool) (r' cap' : Nat) (l' : List Nat), e = .returned (.slice (some ⟨r', 0, none⟩) l'.length cap') ∧ SR w' g s p' b' ∧ By w' r' cap' l' ∧ Kp [g, r] w w' ∧ (r' = r ∨ w.heap.size ≤ r') ∧ AnsO d s p b l' p' b' ∧ l.length ≤ l'.length ∧ l'.length ≤ l.length + 60 ∧ (b' = false → l.length < l'.length)
theorem ans_put {l : List Nat} {L B : Nat} {s : ByteArray} {q : Nat} {b : Bool} (h1 : 1 ≤ L) (hok : backOk l.length L B) : AnsO (De.put l L B) s q b (copy l B L) q b := by
  have e : De.put l L B = if (copy l B L).length ≤ 300 then De.ret (copy l B L) else De.bad := by unfold De.put; rw [add_back h1, if_pos hok]
  rw [e]
  refine ⟨fun h => .inl h, fun h => ⟨h, fun h3 => ?_, fun h3 => ?_⟩⟩
  · rw [if_pos h3]; rfl
  · rw [if_neg (by omega)]; rfl
theorem ans_put_not {l : List Nat} {L B : Nat} {s : ByteArray} {q q' : Nat} {b : Bool} {y : List Nat} (h1 : 1 ≤ L) (hno : ¬ backOk l.length L B) : AnsO (De.put l L B) s q b y q' true := by
  have e : De.put l L B = De.bad := by unfold De.put; rw [add_back h1, if_neg hno]
  rw [e]
  exact AnsO.fail _ _ _ _ _
set_option maxRecDepth 100000 in
set_option maxHeartbeats 2000000 in
theorem sagain_calls (g r cap n x gd od nd cd ga ca : Nat) (s : ByteArray) (p : Nat) (l dist : List Nat) (w4 : World) (hw : SR w4 g s p false) (hb : By w4 r cap l) (hn : l.length = n) (hn2 : n ≤ 300) (hgr : g ≠ r) (hx1 : 257 ≤ x) (hx2 : x ≤ 1000)
    (hd : RowO w4 gd od 3 (i64s dist)) (ha : RowO w4 ga 0 3 (i64s (codes dist))) (hnd : dist.length = nd) (hnd2 : nd ≤ 1000) (hcd : nd ≤ cd) (hca : nd ≤ ca) (fd : gd ≠ g) (fa : ga ≠ g) :
    Calls Tryd.prog 151 #[.pointer (some ⟨g, 0, none⟩), .slice (some ⟨r, 0, none⟩) n cap, .int .i64 (x : Int), .slice (some ⟨gd, od, none⟩) nd cd, .slice (some ⟨ga, 0, none⟩) nd ca] w4 fun e w' => AOut (De.again dist l (x - 257)) s p false l g r w4 e w' := by
  have HN := Lib.hid hn
  have HND := Lib.hid hnd
  have HFD := Lib.hid fd
  have HFA := Lib.hid fa
  have hgS := hw.out.lt
  have hrS := hb.lt
  clear hn hnd fd fa
  obtain ⟨k, hk⟩ : ∃ k, x - 257 = k := ⟨_, rfl⟩
  have ek : IntKind.i64.wrap ((x : Int) - 257) = (k : Int) := by rw [IntKind.wrap_i64]; omega
  have hk1 : k ≤ 1000 := by omega
  rw [hk]
  clear hk
  go_enter Tryd.func151, Tryd.ntmps151
  go_wp2_with fail
  refine (slong28 w4).mono ?_
  rintro e w5 ⟨rA, cA, rfl, RA, hcA, hA1, hA2, O5⟩
  by_cases hk28 : 28 ≤ k
  · have hk28' : (28 : Int) ≤ k := by omega
    have hw5 := hw.on O5
    have fr : ∀ i, w5.frozen? ⟨g, i, none⟩ = false := hw5.out.frozen
    have c2 := (hw5.out.cell 2).trans rfl
    go_wp2_with fail
    go_ret
    refine ⟨p, true, r, cap, l, by rw [HN.out]; rfl, ⟨hw5.out.set 2 (.bool true), hw5.le, hw5.sz⟩, (hb.on O5).kp ((Kp.refl [g] _).set (.inl (by simp)) _) (by simpa using Ne.symm hgr), (Kp.of _ O5).set (.inl (by simp)) _, .inl rfl, ?_, Nat.le_refl _, by omega, fun e => (by cases e)⟩
    unfold De.again
    rw [if_pos hk28]
    exact AnsO.fail _ _ _ _ _
  have hk28' : ¬ (28 : Int) ≤ k := by omega
  have hk0 : (k : Int) < 28 := by omega
  have hcL := fun W r3 (R : RowO W r3 0 3 (i64s longBase)) => R.cell (i64s_get (show k < longBase.length from by rw [show longBase.length = 28 from rfl]; omega))
  have hcLb := fun W r3 (R : RowO W r3 0 3 (i64s longBits)) => R.cell (i64s_get (show k < longBits.length from by rw [show longBits.length = 28 from rfl]; omega))
  simp only [Nat.zero_add] at hcL hcLb
  have hyl : longBits.getD k 0 ≤ 5 := by
    have : ∀ k, k < 28 → longBits.getD k 0 ≤ 5 := by decide
    exact this k (by omega)
  have hxl : longBase.getD k 0 ≤ 300 ∧ 3 ≤ longBase.getD k 0 := by
    have : ∀ k, k < 28 → longBase.getD k 0 ≤ 300 ∧ 3 ≤ longBase.getD k 0 := by decide
    exact this k (by omega)
  obtain ⟨xl, hxl0⟩ : ∃ xl, longBase.getD k 0 = xl := ⟨_, rfl⟩
  obtain ⟨yl, hyl0⟩ : ∃ yl, longBits.getD k 0 = yl := ⟨_, rfl⟩
  rw [hxl0] at hcL hxl
  rw [hyl0] at hcLb hyl
  have HXL0 := Lib.hid hxl0
  have HYL0 := Lib.hid hyl0
  have HCL := Lib.hid hcL
  have HCLB := Lib.hid hcLb
  have hga := fun W h => snum_calls g yl s p false W h (by omega)
  have hv1 := numAt_lt s p yl
  have hp5 : 2 ^ yl ≤ 2 ^ 5 := Nat.pow_le_pow_right (by omega) hyl
  have A1 := Lib.hid (ans_num (n := yl) (b := false) hw.le)
  have HGA := Lib.hid hga
  clear hxl0 hyl0 hcL hcLb hga
  generalize hnv : numAt s p yl = nv at *
  obtain ⟨Lx, hLx⟩ : ∃ Lx, xl + nv = Lx := ⟨_, rfl⟩
  have ea : IntKind.i64.wrap ((xl : Int) + (nv : Int)) = (Lx : Int) := by rw [IntKind.wrap_i64]; omega
  have hLx1 : 1 ≤ Lx := by omega
  have hLx2 : Lx ≤ 1000 := by omega
  have HLX := Lib.hid hLx
  have HSR := Lib.hid hw
  clear hnv hLx
  go_wp2_with fail
  have HR5 := Lib.hid (hw.on O5)
  have hb5 := hb.on O5
  have hd5 := hd.on O5
  have ha5 := ha.on O5
  have hz5 := O5.size
  have hgS5 : g < w5.heap.size := by omega
  have hrS5 : r < w5.heap.size := by omega
  clear hA1 hA2 hcA RA hgS hrS hw hb hd ha
  have hgS := hgS5
  refine wp_region_held_drew (S := fun W => Kp [g] w5 W) (by kernel_rfl) (Kp.refl _ _).drew (fun hHeld => ?_)
  have Ow0 := (On.refl w5).drew
  refine wpAnyH_take (i := 2) (oi := _) (v := ?_) rfl (by kernel_rfl) (by kernel_rfl) (by kernel_rfl) (fun _ _ _ h => h) (Or.inl ⟨by rfl, ?_⟩) (by assumption) ?_
  rotate_left
  · intro w hSw
    go_simp
    first | done | with_reducible rfl
  try simp only [Act.put, List.setIfInBounds_toArray, List.set_cons_zero, List.set_cons_succ]
  refine wpAnyH_take (i := 5) (oi := _) (v := ?_) rfl (by kernel_rfl) (by kernel_rfl) (by kernel_rfl) (fun _ _ _ h => h) (Or.inl ⟨by rfl, ?_⟩) (by assumption) ?_
  rotate_left
  · intro w hSw
    go_simp
    first | done | with_reducible rfl
  try simp only [Act.put, List.setIfInBounds_toArray, List.set_cons_zero, List.set_cons_succ]
  refine wpAnyH_take (i := 7) (oi := _) (v := ?_) rfl (by kernel_rfl) (by kernel_rfl) (by kernel_rfl) (fun _ _ _ h => h) (Or.inl ⟨by rfl, ?_⟩) (by assumption) ?_
  rotate_left
  · intro w hSw
    go_simp
    first | done | with_reducible rfl
  try simp only [Act.put, List.setIfInBounds_toArray, List.set_cons_zero, List.set_cons_succ]
  refine wpAnyH_strong (S' := fun W => Kp [g] w5.drew W) (fun W h => Kp.then (Kp.of [g] Ow0) h) ?_
  have hHeldN : (fun W => Kp [g] w5.drew W) w5.drew := Kp.refl _ _
  generalize w5.drew = wD at *
  refine wpAnyH_ready (rs := [0]) (by kernel_rfl) (by simp) ?_
  refine AllReadyH.cons (o := _) rfl (fun K hK => ?_) AllReadyH.nil
  go_simp
  refine (slong28 _).mono ?_
  rintro e wA ⟨rA, cA, rfl, RA, hcA, hA1, hA2, OA⟩
  have OwA := Ow0.call OA
  refine hK.out _ _ (Kp.of [g] OA) (fun hHeld => ?_)
  clear hK K
  try simp only [Act.put, List.setIfInBounds_toArray, List.set_cons_zero, List.set_cons_succ]
  refine wpAnyH_strong (S' := fun W => Kp [g] wA W) (fun W h => Kp.then (Kp.of [g] OA) h) ?_
  have hHeldN : (fun W => Kp [g] wA W) wA := Kp.refl _ _
  refine wpAnyH_ready (rs := [1]) (by kernel_rfl) (by simp) ?_
  refine AllReadyH.cons (o := _) rfl (fun K hK => ?_) AllReadyH.nil
  go_simp
  refine (slbase rA cA wA RA hcA).mono ?_
  rintro e wB ⟨rB, cB, rfl, RB, hcB, hB1, hB2, OB⟩
  have OwB := OwA.call OB
  have CB : ∀ W, Kp [g] wB W → W.cell? ⟨rB, k, none⟩ = some (.int .i64 (xl : Int)) := fun W h => (h.cell RB.lt (show rB ∉ [g] by simp; have := hgS; have := OwA.size; omega)).trans (HCL.out wB rB RB)
  refine hK.out _ _ (Kp.of [g] OB) (fun hHeld => ?_)
  clear hK K
  try simp only [Act.put, List.setIfInBounds_toArray, List.set_cons_zero, List.set_cons_succ]
  refine wpAnyH_strong (S' := fun W => Kp [g] wB W) (fun W h => Kp.then (Kp.of [g] OB) h) ?_
  have hHeldN : (fun W => Kp [g] wB W) wB := Kp.refl _ _
  refine wpAnyH_take (i := 3) (oi := _) (v := ?_) rfl (by kernel_rfl) (by kernel_rfl) (by kernel_rfl) (fun _ _ _ h => h) (Or.inl ⟨by rfl, ?_⟩) (by assumption) ?_
  rotate_left
  · intro w hSw
    go_simp
    first | done | with_reducible rfl
  try simp only [Act.put, List.setIfInBounds_toArray, List.set_cons_zero, List.set_cons_succ]
  refine wpAnyH_take (i := 4) (oi := _) (v := ?_) rfl (by kernel_rfl) (by kernel_rfl) (by kernel_rfl) (fun _ _ _ h => h) (Or.inl ⟨by rfl, ?_⟩) (by assumption) ?_
  rotate_left
  · intro w hSw
    go_simp
    first | done | with_reducible rfl
  try simp only [Act.put, List.setIfInBounds_toArray, List.set_cons_zero, List.set_cons_succ]
  refine wpAnyH_ready (rs := [6]) (by kernel_rfl) (by simp) ?_
  refine AllReadyH.cons (o := _) rfl (fun K hK => ?_) AllReadyH.nil
  go_simp
  refine (slong28 _).mono ?_
  rintro e wC ⟨rC, cC, rfl, RC, hcC, hC1, hC2, OC⟩
  have OwC := OwB.call OC
  have CC : ∀ W, Kp [g] wC W → W.cell? ⟨rC, k, none⟩ = some (.int .i64 (yl : Int)) := fun W h => (h.cell RC.lt (show rC ∉ [g] by simp; have := hgS; have := OwB.size; omega)).trans (HCLB.out wC rC RC)
  refine hK.out _ _ (Kp.of [g] OC) (fun hHeld => ?_)
  clear hK K
  try simp only [Act.put, List.setIfInBounds_toArray, List.set_cons_zero, List.set_cons_succ]
  refine wpAnyH_strong (S' := fun W => Kp [g] wC W) (fun W h => Kp.then (Kp.of [g] OC) h) ?_
  have hHeldN : (fun W => Kp [g] wC W) wC := Kp.refl _ _
  refine wpAnyH_take (i := 8) (oi := _) (v := ?_) rfl (by kernel_rfl) (by kernel_rfl) (by kernel_rfl) (fun _ _ _ h => h) (Or.inl ⟨by rfl, ?_⟩) (by assumption) ?_
  rotate_left
  · intro w hSw
    go_simp
    first | done | with_reducible rfl
  try simp only [Act.put, List.setIfInBounds_toArray, List.set_cons_zero, List.set_cons_succ]
  refine wpAnyH_take (i := 9) (oi := _) (v := ?_) rfl (by kernel_rfl) (by kernel_rfl) (by kernel_rfl) (fun _ _ _ h => h) (Or.inl ⟨by rfl, ?_⟩) (by assumption) ?_
  rotate_left
  · intro w hSw
    go_simp
    first | done | with_reducible rfl
  try simp only [Act.put, List.setIfInBounds_toArray, List.set_cons_zero, List.set_cons_succ]
  refine wpAnyH_ready (rs := [10]) (by kernel_rfl) (by simp) ?_
  refine AllReadyH.cons (o := _) rfl (fun K hK => ?_) AllReadyH.nil
  go_simp
  refine (HGA.out _ (HR5.out.on OwC)).mono ?_
  rintro e wE ⟨rfl, hrE, KE⟩
  have KwE : Kp [g] w5 wE := (Kp.of [g] OwC).then KE
  refine hK.out _ _ (KE) (fun hHeld => ?_)
  clear hK K
  try simp only [Act.put, List.setIfInBounds_toArray, List.set_cons_zero, List.set_cons_succ]
  refine wpAnyH_strong (S' := fun W => Kp [g] wE W) (fun W h => Kp.then (KE) h) ?_
  have hHeldN : (fun W => Kp [g] wE W) wE := Kp.refl _ _
  refine wpAnyH_take (i := 11) (oi := _) (v := ?_) rfl (by kernel_rfl) (by kernel_rfl) (by kernel_rfl) (fun _ _ _ h => h) (Or.inl ⟨by rfl, ?_⟩) (by assumption) ?_
  rotate_left
  · intro w hSw
    go_simp
    first | done | with_reducible rfl
  try simp only [Act.put, List.setIfInBounds_toArray, List.set_cons_zero, List.set_cons_succ]
  refine wpAnyH_take (i := 12) (oi := _) (v := ?_) rfl (by kernel_rfl) (by kernel_rfl) (by kernel_rfl) (fun _ _ _ h => h) (Or.inl ⟨by rfl, ?_⟩) (by assumption) ?_
  rotate_left
  · intro w hSw
    go_simp
    first | done | with_reducible rfl
  try simp only [Act.put, List.setIfInBounds_toArray, List.set_cons_zero, List.set_cons_succ]
  refine wpAnyH_done (by kernel_rfl) ?_ _
  clear hHeld hHeldN CB CC RA RB RC hcA hcB hcC hA1 hA2 hB1 hB2 hC1 hC2 OA OB OC OwA OwB OwC Ow0 KE
  go_wp2_with fail
  have bE := hb5.kp KwE (by simpa using Ne.symm hgr)
  have dE := hd5.kp KwE (by simpa using HFD.out)
  have aE := ha5.kp KwE (by simpa using HFA.out)
  have hqE := hrE.le
  generalize hq1 : min (p + yl) (8 * s.size) = q1 at *
  generalize hb1 : (false || decide (8 * s.size < p + yl)) = b1 at *
  clear hq1 hb1 HGA HCL HCLB
  refine (ssymbol_calls dist g nd gd od cd ga ca s q1 b1 wE hrE dE aE HND.out hnd2 hcd hca HFD.out HFA.out).mono ?_
  rintro e w6 ⟨v, j, q2, b2, rfl, hr6, A2, hv, hvl, hvh, K6⟩
  have HAG : RowKit.Hid (∀ l' p' b', AnsO (if 30 ≤ j then De.bad else next (num (backBits.getD j 0)) fun y => De.put l Lx (backBase.getD j 0 + y)) s q2 b2 l' p' b' → AnsO (De.again dist l k) s p false l' p' b') := Lib.hid (fun l' p' b' h => by
    unfold De.again
    rw [if_neg hk28, HYL0.out, HXL0.out]
    refine AnsO.next A1.out ?_
    rw [HLX.out]
    exact AnsO.next A2 h)
  have HA2 := Lib.hid A2
  clear A2 hb5 hd5 ha5
  have b6 := bE.kp K6 (by simpa using Ne.symm hgr)
  have K56 := KwE.then K6
  have c2 : w6.cell? ⟨g, 2, none⟩ = some (.bool b2) := (hr6.out.cell 2).trans rfl
  have fr : ∀ i, w6.frozen? ⟨g, i, none⟩ = false := hr6.out.frozen
  have KW : Kp [g, r] w4 w6 := (Kp.of _ O5).then (K56.mono (fun y hy => .inl (by simp at hy ⊢; exact .inl hy)))
  have hz4 := KW.size
  have h46 := K56.size
  have hgS6 : g < w6.heap.size := by omega
  cases b2 with
  | true =>
    have HV := Lib.hid hv
    clear hv
    go_wp2_with fail
    go_ret
    exact ⟨q2, true, r, cap, l, by rw [HN.out]; rfl, ⟨hr6.out.set 2 (.bool true), hr6.le, hr6.sz⟩, b6.kp ((Kp.refl [g] _).set (.inl (by simp)) _) (by simpa using Ne.symm hgr), KW.set (.inl (by simp)) _, .inl rfl, HAG.out _ _ _ (AnsO.was _ _ _ _ _), Nat.le_refl _, by omega, fun e => (by cases e)⟩
  | false =>
    obtain ⟨rfl, hjn⟩ := hv rfl
    clear hv
    go_wp2_with fail
    refine (sback30 w6).mono ?_
    rintro e w7 ⟨rA, cA, rfl, RA, hcA, hA1, hA2, O7⟩
    have hr7 := hr6.on O7
    have b7 := b6.on O7
    have KW7 := KW.then (Kp.of _ O7)
    have hz7 := O7.size
    clear RA hcA hA1 hA2
    by_cases hj30 : 30 ≤ j
    · have hj30' : (30 : Int) ≤ j := by omega
      have c7 : w7.cell? ⟨g, 2, none⟩ = some (.bool false) := (hr7.out.cell 2).trans rfl
      have fr7 : ∀ i, w7.frozen? ⟨g, i, none⟩ = false := hr7.out.frozen
      go_wp2_with fail
      go_ret
      refine ⟨q2, true, r, cap, l, by rw [HN.out]; rfl, ⟨hr7.out.set 2 (.bool true), hr7.le, hr7.sz⟩, b7.kp ((Kp.refl [g] _).set (.inl (by simp)) _) (by simpa using Ne.symm hgr), KW7.set (.inl (by simp)) _, .inl rfl, HAG.out _ _ _ ?_, Nat.le_refl _, by omega, fun e => (by cases e)⟩
      rw [if_pos hj30]
      exact AnsO.fail _ _ _ _ _
    have hj30' : ¬ (30 : Int) ≤ j := by omega
    have hj0 : (j : Int) < 30 := by omega
    have hcB := fun W r3 (R : RowO W r3 0 3 (i64s backBase)) => R.cell (i64s_get (show j < backBase.length from by rw [show backBase.length = 30 from rfl]; omega))
    have hcBb := fun W r3 (R : RowO W r3 0 3 (i64s backBits)) => R.cell (i64s_get (show j < backBits.length from by rw [show backBits.length = 30 from rfl]; omega))
    simp only [Nat.zero_add] at hcB hcBb
    have hyb : backBits.getD j 0 ≤ 13 := by
      have : ∀ k, k < 30 → backBits.getD k 0 ≤ 13 := by decide
      exact this j (by omega)
    have hxb : backBase.getD j 0 ≤ 40000 := by
      have : ∀ k, k < 30 → backBase.getD k 0 ≤ 40000 := by decide +kernel
      exact this j (by omega)
    obtain ⟨xb, hxb0⟩ : ∃ xb, backBase.getD j 0 = xb := ⟨_, rfl⟩
    obtain ⟨yb, hyb0⟩ : ∃ yb, backBits.getD j 0 = yb := ⟨_, rfl⟩
    rw [hxb0] at hcB hxb HAG
    rw [hyb0] at hcBb hyb HAG
    have HCB := Lib.hid hcB
    have HCBB := Lib.hid hcBb
    have hv2 := numAt_lt s q2 yb
    have hp13 : 2 ^ yb ≤ 2 ^ 13 := Nat.pow_le_pow_right (by omega) hyb
    have A8 := Lib.hid (ans_num (n := yb) (b := false) hr7.le)
    have HGB := Lib.hid (fun W h => snum_calls g yb s q2 false W h (by omega))
    clear hxb0 hyb0 hcB hcBb
    generalize hnv2 : numAt s q2 yb = nv2 at *
    obtain ⟨Bx, hBx⟩ : ∃ Bx, xb + nv2 = Bx := ⟨_, rfl⟩
    have eb : IntKind.i64.wrap ((xb : Int) + (nv2 : Int)) = (Bx : Int) := by rw [IntKind.wrap_i64]; omega
    have HBX := Lib.hid hBx
    have hBl : Bx ≤ 100000 := by omega
    clear hnv2 hBx ea
    have HR7 := Lib.hid hr7
    have hgS : g < w7.heap.size := by omega
    clear c2 fr
    go_wp2_with fail
    refine wp_region_held_drew (S := fun W => Kp [g] w7 W) (by kernel_rfl) (Kp.refl _ _).drew (fun hHeld => ?_)
    have Ow0 := (On.refl w7).drew
    refine wpAnyH_take (i := 2) (oi := _) (v := ?_) rfl (by kernel_rfl) (by kernel_rfl) (by kernel_rfl) (fun _ _ _ h => h) (Or.inl ⟨by rfl, ?_⟩) (by assumption) ?_
    rotate_left
    · intro w hSw
      go_simp
      first | done | with_reducible rfl
    try simp only [Act.put, List.setIfInBounds_toArray, List.set_cons_zero, List.set_cons_succ]
    refine wpAnyH_take (i := 5) (oi := _) (v := ?_) rfl (by kernel_rfl) (by kernel_rfl) (by kernel_rfl) (fun _ _ _ h => h) (Or.inl ⟨by rfl, ?_⟩) (by assumption) ?_
    rotate_left
    · intro w hSw
      go_simp
      first | done | with_reducible rfl
    try simp only [Act.put, List.setIfInBounds_toArray, List.set_cons_zero, List.set_cons_succ]
    refine wpAnyH_take (i := 7) (oi := _) (v := ?_) rfl (by kernel_rfl) (by kernel_rfl) (by kernel_rfl) (fun _ _ _ h => h) (Or.inl ⟨by rfl, ?_⟩) (by assumption) ?_
    rotate_left
    · intro w hSw
      go_simp
      first | done | with_reducible rfl
    try simp only [Act.put, List.setIfInBounds_toArray, List.set_cons_zero, List.set_cons_succ]
    refine wpAnyH_strong (S' := fun W => Kp [g] w7.drew W) (fun W h => Kp.then (Kp.of [g] Ow0) h) ?_
    have hHeldN : (fun W => Kp [g] w7.drew W) w7.drew := Kp.refl _ _
    generalize w7.drew = wD at *
    refine wpAnyH_ready (rs := [0]) (by kernel_rfl) (by simp) ?_
    refine AllReadyH.cons (o := _) rfl (fun K hK => ?_) AllReadyH.nil
    go_simp
    refine (sback30 _).mono ?_
    rintro e wA ⟨rA, cA, rfl, RA, hcA, hA1, hA2, OA⟩
    have OwA := Ow0.call OA
    refine hK.out _ _ (Kp.of [g] OA) (fun hHeld => ?_)
    clear hK K
    try simp only [Act.put, List.setIfInBounds_toArray, List.set_cons_zero, List.set_cons_succ]
    refine wpAnyH_strong (S' := fun W => Kp [g] wA W) (fun W h => Kp.then (Kp.of [g] OA) h) ?_
    have hHeldN : (fun W => Kp [g] wA W) wA := Kp.refl _ _
    refine wpAnyH_ready (rs := [1]) (by kernel_rfl) (by simp) ?_
    refine AllReadyH.cons (o := _) rfl (fun K hK => ?_) AllReadyH.nil
    go_simp
    refine (sbbase rA cA wA RA hcA).mono ?_
    rintro e wB ⟨rB, cB, rfl, RB, hcB, hB1, hB2, OB⟩
    have OwB := OwA.call OB
    have CB : ∀ W, Kp [g] wB W → W.cell? ⟨rB, j, none⟩ = some (.int .i64 (xb : Int)) := fun W h => (h.cell RB.lt (show rB ∉ [g] by simp; have := hgS; have := OwA.size; omega)).trans (HCB.out wB rB RB)
    refine hK.out _ _ (Kp.of [g] OB) (fun hHeld => ?_)
    clear hK K
    try simp only [Act.put, List.setIfInBounds_toArray, List.set_cons_zero, List.set_cons_succ]
    refine wpAnyH_strong (S' := fun W => Kp [g] wB W) (fun W h => Kp.then (Kp.of [g] OB) h) ?_
    have hHeldN : (fun W => Kp [g] wB W) wB := Kp.refl _ _
    refine wpAnyH_take (i := 3) (oi := _) (v := ?_) rfl (by kernel_rfl) (by kernel_rfl) (by kernel_rfl) (fun _ _ _ h => h) (Or.inl ⟨by rfl, ?_⟩) (by assumption) ?_
    rotate_left
    · intro w hSw
      go_simp
      first | done | with_reducible rfl
    try simp only [Act.put, List.setIfInBounds_toArray, List.set_cons_zero, List.set_cons_succ]
    refine wpAnyH_take (i := 4) (oi := _) (v := ?_) rfl (by kernel_rfl) (by kernel_rfl) (by kernel_rfl) (fun _ _ _ h => h) (Or.inl ⟨by rfl, ?_⟩) (by assumption) ?_
    rotate_left
    · intro w hSw
      go_simp
      first | done | with_reducible rfl
    try simp only [Act.put, List.setIfInBounds_toArray, List.set_cons_zero, List.set_cons_succ]
    refine wpAnyH_ready (rs := [6]) (by kernel_rfl) (by simp) ?_
    refine AllReadyH.cons (o := _) rfl (fun K hK => ?_) AllReadyH.nil
    go_simp
    refine (sback30 _).mono ?_
    rintro e wC ⟨rC, cC, rfl, RC, hcC, hC1, hC2, OC⟩
    have OwC := OwB.call OC
    have CC : ∀ W, Kp [g] wC W → W.cell? ⟨rC, j, none⟩ = some (.int .i64 (yb : Int)) := fun W h => (h.cell RC.lt (show rC ∉ [g] by simp; have := hgS; have := OwB.size; omega)).trans (HCBB.out wC rC RC)
    refine hK.out _ _ (Kp.of [g] OC) (fun hHeld => ?_)
    clear hK K
    try simp only [Act.put, List.setIfInBounds_toArray, List.set_cons_zero, List.set_cons_succ]
    refine wpAnyH_strong (S' := fun W => Kp [g] wC W) (fun W h => Kp.then (Kp.of [g] OC) h) ?_
    have hHeldN : (fun W => Kp [g] wC W) wC := Kp.refl _ _
    refine wpAnyH_take (i := 8) (oi := _) (v := ?_) rfl (by kernel_rfl) (by kernel_rfl) (by kernel_rfl) (fun _ _ _ h => h) (Or.inl ⟨by rfl, ?_⟩) (by assumption) ?_
    rotate_left
    · intro w hSw
      go_simp
      first | done | with_reducible rfl
    try simp only [Act.put, List.setIfInBounds_toArray, List.set_cons_zero, List.set_cons_succ]
    refine wpAnyH_take (i := 9) (oi := _) (v := ?_) rfl (by kernel_rfl) (by kernel_rfl) (by kernel_rfl) (fun _ _ _ h => h) (Or.inl ⟨by rfl, ?_⟩) (by assumption) ?_
    rotate_left
    · intro w hSw
      go_simp
      first | done | with_reducible rfl
    try simp only [Act.put, List.setIfInBounds_toArray, List.set_cons_zero, List.set_cons_succ]
    refine wpAnyH_ready (rs := [10]) (by kernel_rfl) (by simp) ?_
    refine AllReadyH.cons (o := _) rfl (fun K hK => ?_) AllReadyH.nil
    go_simp
    refine (HGB.out _ (HR7.out.on OwC)).mono ?_
    rintro e wE ⟨rfl, hrE, KE⟩
    have KwE : Kp [g] w7 wE := (Kp.of [g] OwC).then KE
    refine hK.out _ _ (KE) (fun hHeld => ?_)
    clear hK K
    try simp only [Act.put, List.setIfInBounds_toArray, List.set_cons_zero, List.set_cons_succ]
    refine wpAnyH_strong (S' := fun W => Kp [g] wE W) (fun W h => Kp.then (KE) h) ?_
    have hHeldN : (fun W => Kp [g] wE W) wE := Kp.refl _ _
    refine wpAnyH_take (i := 11) (oi := _) (v := ?_) rfl (by kernel_rfl) (by kernel_rfl) (by kernel_rfl) (fun _ _ _ h => h) (Or.inl ⟨by rfl, ?_⟩) (by assumption) ?_
    rotate_left
    · intro w hSw
      go_simp
      first | done | with_reducible rfl
    try simp only [Act.put, List.setIfInBounds_toArray, List.set_cons_zero, List.set_cons_succ]
    refine wpAnyH_take (i := 12) (oi := _) (v := ?_) rfl (by kernel_rfl) (by kernel_rfl) (by kernel_rfl) (fun _ _ _ h => h) (Or.inl ⟨by rfl, ?_⟩) (by assumption) ?_
    rotate_left
    · intro w hSw
      go_simp
      first | done | with_reducible rfl
    try simp only [Act.put, List.setIfInBounds_toArray, List.set_cons_zero, List.set_cons_succ]
    refine wpAnyH_done (by kernel_rfl) ?_ _
    clear hHeld hHeldN CB CC RA RB RC hcA hcB hcC hA1 hA2 hB1 hB2 hC1 hC2 OA OB OC OwA OwB OwC Ow0 KE
    go_wp2_with fail
    have bE2 := b7.kp KwE (by simpa using Ne.symm hgr)
    have KWE := KW7.then (KwE.mono (fun y hy => .inl (by simp at hy ⊢; exact .inl hy)))
    generalize hq3 : min (q2 + yb) (8 * s.size) = q3 at *
    generalize hb3 : (false || decide (8 * s.size < q2 + yb)) = b3 at *
    have HPUT : RowKit.Hid (∀ l' p' b', AnsO (De.put l Lx Bx) s q3 b3 l' p' b' → AnsO (De.again dist l k) s p false l' p' b') := Lib.hid (fun l' p' b' h => HAG.out l' p' b' (by
      rw [if_neg hj30]
      refine AnsO.next A8.out ?_
      rw [HBX.out]; exact h))
    clear HAG A8 HGB HCB HCBB eb hq3 hb3
    have hzE := KWE.size
    refine (sadd_calls r cap n Lx Bx l wE bE2 HN.out (by omega) hLx1 (by omega) hBl).mono ?_
    rintro e w9 (⟨hok, r9, cap9, rfl, hB9, M9⟩ | ⟨hno, rfl, O9⟩)
    · have hr9 := hrE.kp M9.kp (by simpa using hgr)
      have K49 : Kp [g, r] w4 w9 := KWE.trans M9.kp (fun y hy => by simp at hy ⊢; omega)
      have hcl := copy_length l Bx Lx
      rw [HN.out] at hcl
      have HCL := Lib.hid hcl
      have hok60 : Lx ≤ 60 := hok.2.1
      clear hcl
      go_wp2_with fail
      go_ret
      refine ⟨q3, b3, r9, cap9, copy l Bx Lx, by rw [HCL.out]; rfl, hr9, hB9, K49, ?_, HPUT.out _ _ _ (ans_put hLx1 (by rw [HN.out]; exact hok)), by rw [HCL.out, HN.out]; omega, by rw [HCL.out, HN.out]; omega, fun _ => (by rw [HCL.out, HN.out]; omega)⟩
      rcases M9.at_ with e | e
      · exact .inl e
      · right; omega
    · have hr9 := hrE.on O9
      have c9 : w9.cell? ⟨g, 2, none⟩ = some (.bool b3) := (hr9.out.cell 2).trans rfl
      have fr9 : ∀ i, w9.frozen? ⟨g, i, none⟩ = false := hr9.out.frozen
      go_wp2_with fail
      go_ret
      exact ⟨q3, true, r, cap, l, by rw [HN.out]; rfl, ⟨hr9.out.set 2 (.bool true), hr9.le, hr9.sz⟩, (bE2.on O9).kp ((Kp.refl [g] _).set (.inl (by simp)) _) (by simpa using Ne.symm hgr), (KWE.then (Kp.of _ O9)).set (.inl (by simp)) _, .inl rfl, HPUT.out _ _ _ (ans_put_not hLx1 (by rw [HN.out]; exact hno)), Nat.le_refl _, by omega, fun e => (by cases e)⟩
end Go.Proofs.YtncidljdfipigaaDoor.Wi

/- The specification's reader takes tokens up to the end. Conditions: a reader, bytes, lengths. -/
namespace Go.Proofs.YtncidljdfipigaaDoor.Wi
open Go.RowKit Go.Proofs.YtncidljdfipigaaDoor.Mem Go.Proofs.YtncidljdfipigaaDoor.Bt Go.Proofs.YtncidljdfipigaaDoor.Cd Go.Proofs.YtncidljdfipigaaDoor.De
set_option linter.unusedVariables false
set_option linter.unusedSimpArgs false
theorem AnsO.bind {d : Dec (List Nat)} {k : List Nat → Dec (List Nat)} {s : ByteArray} {p p1 p2 : Nat} {b b1 b2 : Bool} {l1 y : List Nat} (h : AnsO d s p b l1 p1 b1) (h2 : AnsO (if l1.length ≤ 300 then k l1 else De.bad) s p1 b1 y p2 b2) : AnsO (De.next d k) s p b y p2 b2 := by
  by_cases hl : l1.length ≤ 300
  · rw [if_pos hl] at h2
    refine ⟨fun e => ?_, fun e => ?_⟩
    · cases hb1 : b1 with
      | true => exact (h.bad hb1).imp id (fun a => next_none a)
      | false =>
        obtain ⟨a1, a2, _⟩ := h.good hb1
        rcases h2.bad e with c | c
        · rw [hb1] at c; cases c
        · exact .inr (by rw [next_some (a2 hl)]; exact c)
    · obtain ⟨c1, c2, c3⟩ := h2.good e
      obtain ⟨a1, a2, _⟩ := h.good c1
      exact ⟨a1, fun h3 => by rw [next_some (a2 hl)]; exact c2 h3, fun h3 => by rw [next_some (a2 hl)]; exact c3 h3⟩
  · rw [if_neg hl] at h2
    refine ⟨fun e => ?_, fun e => ?_⟩
    · cases hb1 : b1 with
      | true => exact (h.bad hb1).imp id (fun a => next_none a)
      | false => exact .inr (next_none ((h.good hb1).2.2 (by omega)))
    · obtain ⟨c1, c2, c3⟩ := h2.good e
      obtain ⟨a1, _, a3⟩ := h.good c1
      exact ⟨a1, fun h3 => (by have := c2 h3; cases this), fun _ => next_none (a3 (by omega))⟩
/-- How far the loop over tokens still may go. -/
def tokFar (g : Nat) (o : Value) (w : World) : Nat := (match o with | .slice _ n _ => 2 * (1000 - n) | _ => 0) + (match w.cell? ⟨g, 2, none⟩ with | some (.bool false) => 1 | _ => 0)
theorem tokFar_lt {g n n' q q' : Nat} {s : ByteArray} {a a' : Option Addr} {c c' : Nat} {b' : Bool} {w w' : World} (h : SR w g s q false) (h' : SR w' g s q' b') (hn : n ≤ n') (hb : b' = false → n < n') (hle : n' ≤ 900) : tokFar g (.slice a' n' c') w' < tokFar g (.slice a n c) w := by
  unfold tokFar
  rw [(h.out.cell 2).trans rfl, (h'.out.cell 2).trans rfl]
  cases b' with
  | false =>
    have := hb rfl
    show 2 * (1000 - n') + 1 < 2 * (1000 - n) + 1
    omega
  | true =>
    show 2 * (1000 - n') + 0 < 2 * (1000 - n) + 1
    omega
set_option maxRecDepth 100000 in
set_option maxHeartbeats 2000000 in
theorem srdtoks_calls (g r cap n gl ol nl cl gd od nd cd : Nat) (s : ByteArray) (p : Nat) (b : Bool) (l lit dist : List Nat) (w : World) (hw : SR w g s p b) (hb : By w r cap l) (hn : l.length = n) (hgr : g ≠ r)
    (hl : RowO w gl ol 3 (i64s lit)) (hd : RowO w gd od 3 (i64s dist)) (hnl : lit.length = nl) (hnd : dist.length = nd) (hnlc : nl ≤ cl) (hndc : nd ≤ cd) (hlen : nl ≤ 1000) (hlen2 : nd ≤ 1000) (fl : gl ≠ g ∧ gl ≠ r) (fd : gd ≠ g ∧ gd ≠ r) :
    Calls Tryd.prog 136 #[.pointer (some ⟨g, 0, none⟩), .slice (some ⟨r, 0, none⟩) n cap, .slice (some ⟨gl, ol, none⟩) nl cl, .slice (some ⟨gd, od, none⟩) nd cd] w fun e w' => SOut (packed lit dist 302 l) s p b l g r w e w' := by
  have HN := Lib.hid hn
  have HNL := Lib.hid hnl
  have HND := Lib.hid hnd
  have HFL := Lib.hid fl
  have HFD := Lib.hid fd
  have hgl := hw.out.lt
  have hrl := hb.lt
  have hll := hl.lt
  have hdl := hd.lt
  clear hn hnl hnd fl fd
  go_enter Tryd.func136, Tryd.ntmps136
  go_wp2_with fail
  refine (scodes_calls lit gl ol nl cl w hl HNL.out (by omega) hnlc).mono ?_
  rintro e w1 ⟨ra, ca, rfl, Na, ha1, ha2, O1⟩
  have hcl : (codes lit).length = nl := by rw [codes_length]; exact HNL.out
  rw [hcl] at Na ⊢
  go_wp2_with fail
  refine (scodes_calls dist gd od nd cd w1 (hd.on O1) HND.out (by omega) hndc).mono ?_
  rintro e w2 ⟨rb, cb, rfl, Nb, hb1, hb2, O2⟩
  have hcd : (codes dist).length = nd := by rw [codes_length]; exact HND.out
  rw [hcd] at Nb ⊢
  have O12 := O1.call O2
  have Na2 := Na.on O2
  have hca : nl ≤ ca := Na.row.2.2.1
  have hcb : nd ≤ cb := Nb.row.2.2.1
  have Ra := Na2.row.1.toO
  have Rb := Nb.row.1.toO
  have hz1 := O1.size
  have hz2 := O2.size
  have hl2 := hl.on O12
  have hd2 := hd.on O12
  have hw2 := hw.on O12
  have hb2' := hb.on O12
  have fa : RowKit.Hid (ra ≠ g ∧ ra ≠ r) := Lib.hid ⟨by omega, by omega⟩
  have fb : RowKit.Hid (rb ≠ g ∧ rb ≠ r) := Lib.hid ⟨by omega, by omega⟩
  clear Na Nb Na2 hcl hcd hb hw hl hd ha1 ha2 hb1 hb2
  have hz0 := O12.size
  go_wp2_with fail
  go_loopw [1] (fun o wr => ∃ (q : Nat) (bb : Bool) (r' cap' : Nat) (l' : List Nat), o = .slice (some ⟨r', 0, none⟩) l'.length cap' ∧ SR wr g s q bb ∧ By wr r' cap' l' ∧ Kp [g, r] w2 wr ∧ (r' = r ∨ w2.heap.size ≤ r') ∧ g ≠ r' ∧ RowKit.Hid (l.length ≤ 300 → Still lit dist l s p b l' q bb) ∧ RowKit.Hid (l.length ≤ l'.length ∧ l'.length ≤ l.length + 360 ∧ (l.length < l'.length → l'.length ≤ 360))) (fun o wr => tokFar g o wr)
  case atStart => exact ⟨p, b, r, cap, l, by rw [HN.out], hw2, hb2', Kp.refl _ _, .inl rfl, hgr, Lib.hid (fun h => Still.start h), Lib.hid ⟨Nat.le_refl _, by omega, fun h => by omega⟩⟩
  case round =>
    obtain ⟨q, bb, r', cap', l', rfl, hr, hB, K, hr', hgr', HST, HLE⟩ := hrel
    have c2 : wr.cell? ⟨g, 2, none⟩ = some (.bool bb) := (hr.out.cell 2).trans rfl
    have fr : ∀ i, wr.frozen? ⟨g, i, none⟩ = false := hr.out.frozen
    have KW := (Kp.of [g, r] O12).then K
    have hrw : r' = r ∨ w.heap.size ≤ r' := by omega
    have BX : ∀ u : Value, By (wr.setCell ⟨g, 2, none⟩ u) r' cap' l' := fun u => hB.kp ((Kp.refl [g] _).set (.inl (by simp)) _) (by simpa using Ne.symm hgr')
    have HBX := Lib.hid BX
    have hgwr := hr.out.lt
    clear BX
    cases bb with
    | true =>
      go_wp2_with fail
      go_ret
      exact ⟨q, true, r', cap', l', rfl, ⟨hr.out.set 2 (.bool true), hr.le, hr.sz⟩, HBX.out _, KW.set (.inl (by simp)) _, hrw, fun h => (HST.out h).bad, HLE.out.1, by have := HLE.out.2; omega, fun e => (by cases e)⟩
    | false =>
    by_cases h3 : 300 < l'.length
    · have h3' : decide ((l'.length : Int) ≤ 300) = false := by simp; omega
      have h3'' : decide (l'.length ≤ 300) = false := by simp; omega
      go_wp2_with fail
      go_ret
      refine ⟨q, true, r', cap', l', rfl, ⟨hr.out.set 2 (.bool true), hr.le, hr.sz⟩, HBX.out _, KW.set (.inl (by simp)) _, hrw, fun h => ?_, HLE.out.1, by have := HLE.out.2; omega, fun e => (by cases e)⟩
      obtain ⟨D, h1, _, h4⟩ := (HST.out h).out
      refine h1 _ _ _ ?_
      rcases h4 with ⟨h4, _⟩ | ⟨_, rfl⟩
      · omega
      · exact AnsO.fail _ _ _ _ _
    have h3' : (l'.length : Int) ≤ 300 := by omega
    have hl300 : l.length ≤ 300 := by have := HLE.out.1; omega
    have S := HST.out hl300
    have h3n : l'.length ≤ 300 := by omega
    go_wp2_with fail
    refine (ssymbol_calls lit g nl gl ol cl ra ca s q false wr hr (hl2.kp K (by simp; exact HFL.out)) (Ra.kp K (by simp; exact fa.out)) HNL.out (by omega) hnlc hca HFL.out.1 fa.out.1).mono ?_
    rintro e w5 ⟨v, x, q1, b1, rfl, hr5, A5, hv, hvl, hvh, K5⟩
    have K45 := K.then (K5.mono (fun y hy => .inl (by simp at hy ⊢; exact .inl hy)))
    have KW5 := (Kp.of [g, r] O12).then K45
    obtain ⟨f, hf, HS⟩ := S.sym h3n A5
    have hB5 := hB.kp K5 (by simpa using Ne.symm hgr')
    have d2 : w5.cell? ⟨g, 2, none⟩ = some (.bool b1) := (hr5.out.cell 2).trans rfl
    have HHS := Lib.hid HS
    have HV := Lib.hid hv
    have hz5 := K45.size
    clear HS hv S A5
    cases b1 with
    | true =>
      go_wp2_with fail
      go_ret
      exact ⟨q1, true, r', cap', l', rfl, hr5, hB5, KW5, hrw, fun _ => HHS.out _ _ _ (AnsO.was _ _ _ _ _), HLE.out.1, by have := HLE.out.2; omega, fun e => (by cases e)⟩
    | false =>
    obtain ⟨rfl, hxn⟩ := HV.out rfl
    by_cases h256 : x = 256
    · subst h256
      go_wp2_with fail
      go_ret
      have HX := HHS.out l' q1 false (by
        first | rw [if_pos rfl] | rw [if_pos trivial]
        exact ⟨fun e => (by cases e), fun _ => ⟨rfl, fun _ => rfl, fun h => absurd h h3⟩⟩)
      exact ⟨q1, false, r', cap', l', rfl, hr5, hB5, KW5, hrw, fun _ => HX, HLE.out.1, by have := HLE.out.2; omega, fun e => ⟨(HX.good e).1, .inr h3n⟩⟩
    have h256' : ((x : Int) == 256) = false := by simp; omega
    by_cases hlt : x < 256
    · have hlt' : (x : Int) < 256 := by omega
      have hu8 : IntKind.u8.wrap (x : Int) = (x : Int) := wr_u8 _ (by omega) (by omega)
      go_wp2_with (at_builtin; go_must (refine wpList_byte (x := x) rfl _ _ rfl rfl hB5.out rfl (by omega) ?_); intro r6 cap6 w6 hby6 hr6 hrl6 K6 hc1 hc2)
      have hg6 : g ≠ r6 := by have := hr5.out.lt; rcases hr6 with e | e <;> omega
      have hr66 := hr5.kp K6 (by simpa using hgr')
      refine ⟨⟨q1, false, r6, cap6, l' ++ [x], by rw [List.length_append]; rfl, hr66, ⟨by rw [List.length_append]; exact hby6⟩, K45.trans K6 (fun y hy => ?_), by omega, hg6, Lib.hid (fun _ => ⟨if l'.length < 300 then packed lit dist f (l' ++ [x]) else De.bad, fun l2 p2 b2 h => HHS.out l2 p2 b2 ?_, by rw [List.length_append]; simp; omega, ?_⟩), Lib.hid ⟨by rw [List.length_append]; have := HLE.out.1; omega, by rw [List.length_append]; simp; have := HLE.out.1; omega, fun _ => by rw [List.length_append]; simp; omega⟩⟩, tokFar_lt hr hr66 (by omega) (fun _ => by omega) (by omega)⟩
      · simp at hy ⊢; omega
      · rw [if_neg h256, if_pos hlt]; exact h
      · by_cases h300 : l'.length < 300
        · rw [if_pos h300]; exact .inl ⟨by rw [List.length_append]; simp; omega, f, by rw [List.length_append]; simp; omega, rfl⟩
        · rw [if_neg h300]; exact .inr ⟨by rw [List.length_append]; simp; omega, rfl⟩
    have hge : 257 ≤ x := by omega
    have hlt' : ¬ (x : Int) < 256 := by omega
    have hl'1 := HLE.out.1
    go_wp2_with fail
    refine (sagain_calls g r' cap' l'.length x gd od nd cd rb cb s q1 l' dist w5 hr5 hB5 rfl h3n hgr' hge (by omega) (hd2.kp K45 (by simp; exact HFD.out)) (Rb.kp K45 (by simp; exact fb.out)) HND.out (by omega) hndc hcb HFD.out.1 fb.out.1).mono ?_
    rintro e w6 ⟨q2, b2, r6, cap6, l2, rfl, hr6, hB6, K6, hr6w, A6, h1, h2, h4⟩
    have hg6 : g ≠ r6 := by have := hr5.out.lt; rcases hr6w with e | e <;> omega
    go_wp2_with fail
    refine ⟨⟨q2, b2, r6, cap6, l2, rfl, hr6, hB6, K45.trans K6 (fun y hy => ?_), by omega, hg6, Lib.hid (fun _ => ?_), Lib.hid ⟨by omega, by omega, fun _ => by omega⟩⟩, tokFar_lt hr hr6 (by omega) (fun e => h4 e) (by omega)⟩
    · simp at hy ⊢; omega
    · cases b2 with
      | false =>
        have := h4 rfl
        refine ⟨if l2.length ≤ 300 then packed lit dist f l2 else De.bad, fun l3 p3 b3 h => HHS.out _ _ _ ?_, by omega, ?_⟩
        · rw [if_neg h256, if_neg hlt]; exact AnsO.bind A6 h
        · by_cases h300 : l2.length ≤ 300
          · rw [if_pos h300]; exact .inl ⟨h300, f, by omega, rfl⟩
          · rw [if_neg h300]; exact .inr ⟨by omega, rfl⟩
      | true =>
        refine ⟨if l2.length ≤ 300 then packed lit dist 302 l2 else De.bad, fun l3 p3 b3 h => HHS.out _ _ _ ?_, by omega, ?_⟩
        · rw [if_neg h256, if_neg hlt]
          refine AnsO.bind A6 ?_
          cases b3 with
          | false => have := (h.good rfl).1; cases this
          | true => exact AnsO.was _ _ _ _ _
        · by_cases h300 : l2.length ≤ 300
          · rw [if_pos h300]; exact .inl ⟨h300, 302, by omega, rfl⟩
          · rw [if_neg h300]; exact .inr ⟨by omega, rfl⟩
end Go.Proofs.YtncidljdfipigaaDoor.Wi

/- The specification's reader takes the lengths of both codes. Conditions: a reader. -/
namespace Go.Proofs.YtncidljdfipigaaDoor.Wi
open Go.RowKit Go.Proofs.YtncidljdfipigaaDoor.Mem Go.Proofs.YtncidljdfipigaaDoor.Bt Go.Proofs.YtncidljdfipigaaDoor.Cd Go.Proofs.YtncidljdfipigaaDoor.De
set_option linter.unusedVariables false
set_option linter.unusedSimpArgs false
theorem sorder_calls (w : World) : Calls Tryd.prog 129 #[] w (GivesN w 19 order) := by
  go_enter Tryd.func129, Tryd.ntmps129
  go_wp2_with fail
  go_ret
  exact ⟨w.heap.size, 19, rfl, (Row.of (Blk.new w 3 _)).toO, by omega, Nat.le_refl _, (Blk.new w 3 _).lt, (On.refl w).alloc _⟩
theorem next_ret {α β : Type} (x : α) (k : α → Dec β) : De.next (De.ret x) k = k x := rfl
theorem next_bad {α β : Type} (k : α → Dec β) : De.next (De.bad : Dec α) k = De.bad := rfl
theorem next_next {α β γ : Type} (d : Dec α) (k : α → Dec β) (j : β → Dec γ) : De.next (De.next d k) j = De.next d (fun x => De.next (k x) j) := by
  funext bs
  unfold De.next
  cases d bs <;> rfl
theorem lenLoop_step {m all : List Nat} {want f : Nat} (h : ¬ want ≤ all.length) : lenLoop m want (f + 1) all = De.next (Cd.sym m) fun x => De.next (stepD x all) fun a => lenLoop m want f a := by
  rw [lenLoop, if_neg h]
  congr 1
  funext x
  unfold stepD
  by_cases h1 : x < 16
  · rw [if_pos h1, if_pos h1, next_ret]; rfl
  · rw [if_neg h1, if_neg h1]
    by_cases h2 : x = 16
    · rw [if_pos h2, if_pos h2, next_next]
      congr 1
      funext y
      by_cases h3 : all.length = 0
      · rw [if_pos h3, if_pos h3, next_bad]
      · rw [if_neg h3, if_neg h3, next_ret]
    · rw [if_neg h2, if_neg h2]
      by_cases h3 : x = 17
      · rw [if_pos h3, if_pos h3, next_next]; rfl
      · rw [if_neg h3, if_neg h3, next_next]; rfl
/-- What lens leaves. -/
structure SLens (s : ByteArray) (p : Nat) (b : Bool) (g : Nat) (w : World) (e : Ending) (w' : World) : Prop where mk ::
  out : ∃ (v1 v2 : Value) (p' : Nat) (b' : Bool) (lit dist : List Nat), e = .returned (.tuple #[v1, v2]) ∧ SR w' g s p' b' ∧ Ans own s p b (lit, dist) p' b' ∧ Kp [g] w w' ∧
      (b' = false → ∃ (r n c : Nat), v1 = .slice (some ⟨r, 0, none⟩) lit.length n ∧ v2 = .slice (some ⟨r, lit.length, none⟩) dist.length c ∧ lit.length ≤ 286 ∧ dist.length ≤ 30 ∧ lit.length ≤ n ∧ dist.length ≤ c ∧ RowO w' r 0 3 (i64s lit) ∧ RowO w' r lit.length 3 (i64s dist) ∧ w.heap.size ≤ r)
set_option maxRecDepth 100000 in
set_option maxHeartbeats 4000000 in
theorem slens_calls (g : Nat) (s : ByteArray) (p : Nat) (b : Bool) (w : World) (hw : SR w g s p b) :
    Calls Tryd.prog 137 #[.pointer (some ⟨g, 0, none⟩)] w fun e w' => SLens s p b g w e w' := by
  have hgl := hw.out.lt
  have HE1 := Lib.hid (snum_calls g 5 s p b w hw (by omega))
  have A1 := Lib.hid (ans_num (n := 5) (b := b) hw.le)
  have hm1 := numAt_lt s p 5
  generalize numAt s p 5 = na at *
  generalize min (p + 5) (8 * s.size) = q1 at *
  generalize (b || decide (8 * s.size < p + 5)) = x1 at *
  obtain ⟨lg, hlg⟩ : ∃ lg, na + 257 = lg := ⟨_, rfl⟩
  have e1 : IntKind.i64.wrap (257 + (na : Int)) = (lg : Int) := by rw [IntKind.wrap_i64]; omega
  have hlg1 : 257 ≤ lg ∧ lg ≤ 300 := by omega
  have HLG := Lib.hid hlg
  clear hlg
  go_enter Tryd.func137, Tryd.ntmps137
  go_wp2_with fail
  refine HE1.out.mono ?_
  rintro e w1 ⟨rfl, hw1, K1⟩
  have HE2 := Lib.hid (snum_calls g 5 s q1 x1 w1 hw1 (by omega))
  have A2 := Lib.hid (ans_num (n := 5) (b := x1) hw1.le)
  have hm2 := numAt_lt s q1 5
  generalize numAt s q1 5 = nb at *
  generalize min (q1 + 5) (8 * s.size) = q2 at *
  generalize (x1 || decide (8 * s.size < q1 + 5)) = x2 at *
  obtain ⟨bk, hbk⟩ : ∃ bk, nb + 1 = bk := ⟨_, rfl⟩
  have e2 : IntKind.i64.wrap (1 + (nb : Int)) = (bk : Int) := by rw [IntKind.wrap_i64]; omega
  have hbk1 : 1 ≤ bk ∧ bk ≤ 32 := by omega
  have HBK := Lib.hid hbk
  clear hbk
  go_wp2_with fail
  refine HE2.out.mono ?_
  rintro e w2 ⟨rfl, hw2, K2⟩
  have HE3 := Lib.hid (snum_calls g 4 s q2 x2 w2 hw2 (by omega))
  have A3 := Lib.hid (ans_num (n := 4) (b := x2) hw2.le)
  have hm3 := numAt_lt s q2 4
  generalize numAt s q2 4 = nc at *
  generalize min (q2 + 4) (8 * s.size) = q3 at *
  generalize (x2 || decide (8 * s.size < q2 + 4)) = x3 at *
  obtain ⟨nm, hnm⟩ : ∃ nm, nc + 4 = nm := ⟨_, rfl⟩
  have e3 : IntKind.i64.wrap (4 + (nc : Int)) = (nm : Int) := by rw [IntKind.wrap_i64]; omega
  have hnm1 : nm ≤ 19 := by omega
  have HNM := Lib.hid hnm
  clear hnm hm1 hm2 hm3
  go_wp2_with fail
  refine HE3.out.mono ?_
  rintro e w3 ⟨rfl, hw3, K3⟩
  have K13 := (K1.then K2).then K3
  obtain ⟨D, hD⟩ : ∃ D : Dec (List Nat × List Nat), D = (next (metas nm 0 (List.replicate 19 0)) fun m => if okLens m = true ∧ lg ≤ 286 ∧ bk ≤ 30 then next (lenLoop m (lg + bk) 400 []) fun all => (if okLens (all.take lg) = true ∧ okLens (all.drop lg) = true then De.ret (all.take lg, all.drop lg) else De.bad) else De.bad) := ⟨_, rfl⟩
  have HD := Lib.hid hD
  have HA : RowKit.Hid (∀ y p' b', Ans D s q3 x3 y p' b' → Ans own s p b y p' b') := Lib.hid (fun y p' b' h => by
    rw [HD.out] at h
    unfold own
    refine Ans.next A1.out (Ans.next A2.out (Ans.next A3.out ?_))
    rw [HLG.out, HBK.out, HNM.out]
    exact h)
  clear hD A1 A2 A3 HE1 HE2 HE3 K1 K2 K3 HLG HBK HNM
  have hgl3 := hw3.out.lt
  go_wp2_with (at_make; go_must (refine wpList_ints _ rfl _ _ rfl _ _ 19 rfl rfl rfl rfl (by omega) ?_); intro w4 hN1 O4 hlt1)
  have hw4 := hw3.on O4
  have K04 := K13.then (Kp.of [g] O4)
  have hz3 := K13.size
  have hz4 := O4.size
  generalize hA : w3.heap.size = A at *
  have hgA : g ≠ A := by omega
  have hAw : w.heap.size ≤ A := by omega
  clear hA
  go_loopw [8] (fun i wr => ∃ (k q : Nat) (bb : Bool) (m : List Nat), i = .int .i64 (k : Int) ∧ k ≤ nm ∧ SR wr g s q bb ∧ Nums wr A (.slice (some ⟨A, 0, none⟩) 19 19) m ∧ Kp [g, A] w4 wr ∧ m.length = 19 ∧ (∀ y ∈ m, y ≤ 7) ∧ (∀ y p' b', Ans (metas (nm - k) k m) s q bb y p' b' → Ans (metas nm 0 (List.replicate 19 0)) s q3 x3 y p' b')) (fun i _ => nm - (intOf i).toNat)
  case atStart => exact ⟨0, q3, x3, List.replicate 19 0, rfl, by omega, hw4, hN1, Kp.refl _ _, rfl, by simp, fun y p' b' h => h⟩
  case round =>
    obtain ⟨k, q, bb, m, rfl, hk, hr, hN, K, hml, hm7, hF⟩ := hrel
    by_cases hlt : k < nm
    · have hk19' : k < 19 := by omega
      have hol := order_lt k hk19'
      have HG := Lib.hid (fun W h => snum_calls g 3 s q bb W h (by omega))
      have A4 := ans_num (n := 3) (b := bb) hr.le
      have hv := numAt_lt s q 3
      have hF2 : RowKit.Hid (∀ y p' b', Ans (metas (nm - (k + 1)) (k + 1) (m.set (order.getD k 0) (numAt s q 3))) s (min (q + 3) (8 * s.size)) (bb || decide (8 * s.size < q + 3)) y p' b' → Ans (metas nm 0 (List.replicate 19 0)) s q3 x3 y p' b') := Lib.hid (fun y p' b' h => hF y p' b' (by
        rw [show nm - k = (nm - (k + 1)) + 1 from by omega, metas]
        exact Ans.next A4 h))
      have HM7 := Lib.hid hm7
      have HML := Lib.hid hml
      have hco := fun W r3 (R : RowO W r3 0 3 (i64s order)) => R.cell (i64s_get (show k < order.length from by rw [show order.length = 19 from rfl]; omega))
      simp only [Nat.zero_add] at hco
      have HCO := Lib.hid hco
      clear hF A4 hm7 hml hco
      generalize order.getD k 0 = ok at *
      generalize numAt s q 3 = v at *
      generalize min (q + 3) (8 * s.size) = qq at *
      generalize (bb || decide (8 * s.size < q + 3)) = b2 at *
      have hk2 : (k : Int) < (nm : Int) := by omega
      have hk3 : (k : Int) < 19 := by omega
      have hol2 : (ok : Int) < 19 := by omega
      have hcells : ok < m.length := by rw [HML.out]; exact hol
      have HRR := Lib.hid hr
      have HNN := Lib.hid hN
      have hgS := hr.out.lt
      have hAS := hN.row.1.lt
      go_upto_region 8 with fail
      refine wp_region_held_drew (S := fun W => Kp [g, A] wr W) (by kernel_rfl) (Kp.refl _ _).drew (fun hHeld => ?_)
      have Ow0 := (On.refl wr).drew
      refine wpAnyH_take (i := 0) (oi := _) (v := ?_) rfl (by kernel_rfl) (by kernel_rfl) (by kernel_rfl) (fun _ _ _ h => h) (Or.inl ⟨by rfl, ?_⟩) (by assumption) ?_
      rotate_left
      · intro w hSw
        go_simp
        first | done | with_reducible rfl
      try simp only [Act.put, List.setIfInBounds_toArray, List.set_cons_zero, List.set_cons_succ]
      refine wpAnyH_take (i := 2) (oi := _) (v := ?_) rfl (by kernel_rfl) (by kernel_rfl) (by kernel_rfl) (fun _ _ _ h => h) (Or.inl ⟨by rfl, ?_⟩) (by assumption) ?_
      rotate_left
      · intro w hSw
        go_simp
        first | done | with_reducible rfl
      try simp only [Act.put, List.setIfInBounds_toArray, List.set_cons_zero, List.set_cons_succ]
      refine wpAnyH_take (i := 5) (oi := _) (v := ?_) rfl (by kernel_rfl) (by kernel_rfl) (by kernel_rfl) (fun _ _ _ h => h) (Or.inl ⟨by rfl, ?_⟩) (by assumption) ?_
      rotate_left
      · intro w hSw
        go_simp
        first | done | with_reducible rfl
      try simp only [Act.put, List.setIfInBounds_toArray, List.set_cons_zero, List.set_cons_succ]
      refine wpAnyH_strong (S' := fun W => Kp [g, A] wr.drew W) (fun W h => Kp.then (Kp.of [g, A] Ow0) h) ?_
      have hHeldN : (fun W => Kp [g, A] wr.drew W) wr.drew := Kp.refl _ _
      generalize wr.drew = wD at *
      refine wpAnyH_ready (rs := [1]) (by kernel_rfl) (by simp) ?_
      refine AllReadyH.cons (o := _) rfl (fun K hK => ?_) AllReadyH.nil
      go_simp
      refine (sorder_calls _).mono ?_
      rintro e wA ⟨rA, cA, rfl, RA, hcA, hA1, hA2, OA⟩
      have OwA := Ow0.call OA
      have CA : ∀ W, Kp [g, A] wA W → W.cell? ⟨rA, k, none⟩ = some (.int .i64 (ok : Int)) := fun W h => (h.cell RA.lt (show rA ∉ [g, A] by simp; have := hgS; have := Ow0.size; omega)).trans (HCO.out wA rA RA)
      refine hK.out _ _ (Kp.of [g, A] OA) (fun hHeld => ?_)
      clear hK K
      try simp only [Act.put, List.setIfInBounds_toArray, List.set_cons_zero, List.set_cons_succ]
      refine wpAnyH_strong (S' := fun W => Kp [g, A] wA W) (fun W h => Kp.then (Kp.of [g, A] OA) h) ?_
      have hHeldN : (fun W => Kp [g, A] wA W) wA := Kp.refl _ _
      refine wpAnyH_take (i := 3) (oi := _) (v := ?_) rfl (by kernel_rfl) (by kernel_rfl) (by kernel_rfl) (fun _ _ _ h => h) (Or.inl ⟨by rfl, ?_⟩) (by assumption) ?_
      rotate_left
      · intro w hSw
        go_simp
        first | done | with_reducible rfl
      try simp only [Act.put, List.setIfInBounds_toArray, List.set_cons_zero, List.set_cons_succ]
      refine wpAnyH_take (i := 4) (oi := _) (v := ?_) rfl (by kernel_rfl) (by kernel_rfl) (by kernel_rfl) (fun _ _ _ h => h) (Or.inl ⟨by rfl, ?_⟩) (by assumption) ?_
      rotate_left
      · intro w hSw
        go_simp
        first | done | with_reducible rfl
      try simp only [Act.put, List.setIfInBounds_toArray, List.set_cons_zero, List.set_cons_succ]
      refine wpAnyH_ready (rs := [6]) (by kernel_rfl) (by simp) ?_
      refine AllReadyH.cons (o := _) rfl (fun K hK => ?_) AllReadyH.nil
      go_simp
      refine (HG.out _ (HRR.out.on OwA)).mono ?_
      rintro e wE ⟨rfl, hrE, KE⟩
      have KwE : Kp [g] wr wE := (Kp.of [g] OwA).then KE
      have KEL : Kp [g, A] wA wE := KE.mono (fun y hy => .inl (by simp at hy ⊢; exact .inl hy))
      refine hK.out _ _ (KEL) (fun hHeld => ?_)
      clear hK K
      try simp only [Act.put, List.setIfInBounds_toArray, List.set_cons_zero, List.set_cons_succ]
      refine wpAnyH_strong (S' := fun W => Kp [g, A] wE W) (fun W h => Kp.then (KEL) h) ?_
      have hHeldN : (fun W => Kp [g, A] wE W) wE := Kp.refl _ _
      refine wpAnyH_take (i := 7) (oi := _) (v := ?_) rfl (by kernel_rfl) (by kernel_rfl) (by kernel_rfl) (fun _ _ _ h => h) (Or.inl ⟨by rfl, ?_⟩) (by assumption) ?_
      rotate_left
      · intro w hSw
        go_simp
        first | done | with_reducible rfl
      try simp only [Act.put, List.setIfInBounds_toArray, List.set_cons_zero, List.set_cons_succ]
      have hNE := HNN.out.kp KwE (by simpa using Ne.symm hgA)
      have ce := hNE.row.1.cell (i64s_get hcells)
      have fe : ∀ i, wE.frozen? ⟨A, i, none⟩ = false := hNE.row.1.frozen
      refine wpAnyH_ready (rs := [8]) (by kernel_rfl) (by simp) ?_
      refine AllReadyH.cons (o := _) rfl (fun K hK => ?_) AllReadyH.nil
      go_simp
      have KS : Kp [A] wE (wE.setCell ⟨A, ok, none⟩ (.int .i64 (v : Int))) := (Kp.refl _ _).set (.inl (by simp)) _
      refine hK.out _ _ (KS.mono (fun y hy => .inl (by simp at hy ⊢; exact .inr hy))) (fun hHeld => ?_)
      clear hK K
      refine wpAnyH_done (by kernel_rfl) ?_ _
      clear hHeld hHeldN CA RA hcA hA1 hA2 OA OwA Ow0 KE KEL ce fe
      go_wp2_with fail
      go_roundw
      case rel =>
        refine ⟨k + 1, qq, b2, m.set ok v, by go_num, by omega, hrE.kp KS (by simpa using hgA), hNE.set ok v, (K.then (KwE.mono (fun y hy => .inl (by simp at hy ⊢; exact .inl hy)))).set (.inl (by simp)) _, by rw [List.length_set]; exact HML.out, fun y hy => ?_, hF2.out⟩
        rcases List.mem_or_eq_of_mem_set hy with h | rfl
        · exact HM7.out y h
        · omega
      case measure => simp [intOf]; omega
    · obtain rfl : k = nm := by omega
      have hM : Ans (metas k 0 (List.replicate 19 0)) s q3 x3 m q bb := hF m q bb (by rw [Nat.sub_self]; exact Ans.ret _ _ _ _)
      have HF : RowKit.Hid (∀ y p' b', Ans (if okLens m = true ∧ lg ≤ 286 ∧ bk ≤ 30 then next (lenLoop m (lg + bk) 400 []) fun all => (if okLens (all.take lg) = true ∧ okLens (all.drop lg) = true then De.ret (all.take lg, all.drop lg) else De.bad) else De.bad) s q bb y p' b' → Ans own s p b y p' b') := Lib.hid (fun y p' b' h => HA.out _ _ _ (by rw [HD.out]; exact Ans.next hM h))
      clear hF hM
      have K0r : Kp [g] w wr := K04.trans K (fun y hy => by simp at hy ⊢; omega)
      have hzr : A < wr.heap.size := by have := K.size; omega
      have hx100 : ∀ y ∈ m, y ≤ 100000 := fun y hy => by have := hm7 y hy; omega
      have RM := hN.row.1.toO
      cases hok : okLens m with
      | false =>
        have HOK := Lib.hid hok
        clear hok
        go_wp2_with fail
        refine (slensok_calls m A 0 19 19 wr RM hml (by omega) (by omega) hx100).mono ?_
        rintro e w6 ⟨rfl, O6⟩
        rw [HOK.out]
        have hr6 := hr.on O6
        have fr6 : ∀ i, w6.frozen? ⟨g, i, none⟩ = false := hr6.out.frozen
        have d6 : w6.cell? ⟨g, 2, none⟩ = some (.bool bb) := (hr6.out.cell 2).trans rfl
        go_wp2_with fail
        go_ret2
        have R7 : SR (w6.setCell ⟨g, 2, none⟩ (.bool true)) g s q true := ⟨hr6.out.set 2 (.bool true), hr.le, hr.sz⟩
        have O7 := ((On.refl (w6.setCell ⟨g, 2, none⟩ (.bool true))).alloc (.cells #[] 3)).alloc (.cells #[] 3)
        refine .mk ⟨_, _, q, true, [], [], rfl, R7.on O7, HF.out _ _ _ ?_, ((K0r.then (Kp.of _ O6)).set (.inl (by simp)) _).then (Kp.of _ O7), fun e => by cases e⟩
        rw [if_neg (fun h => by have := HOK.out; rw [h.1] at this; cases this)]
        exact Ans.fail _ _ _ _ _
      | true =>
        have HOK := Lib.hid hok
        clear hok
        by_cases hL : 286 < lg
        · have hL' : (286 : Int) < (lg : Int) := by omega
          go_wp2_with fail
          refine (slensok_calls m A 0 19 19 wr RM hml (by omega) (by omega) hx100).mono ?_
          rintro e w6 ⟨rfl, O6⟩
          rw [HOK.out]
          have hr6 := hr.on O6
          have fr6 : ∀ i, w6.frozen? ⟨g, i, none⟩ = false := hr6.out.frozen
          have d6 : w6.cell? ⟨g, 2, none⟩ = some (.bool bb) := (hr6.out.cell 2).trans rfl
          go_wp2_with fail
          go_ret2
          have R7 : SR (w6.setCell ⟨g, 2, none⟩ (.bool true)) g s q true := ⟨hr6.out.set 2 (.bool true), hr.le, hr.sz⟩
          have O7 := ((On.refl (w6.setCell ⟨g, 2, none⟩ (.bool true))).alloc (.cells #[] 3)).alloc (.cells #[] 3)
          refine .mk ⟨_, _, q, true, [], [], rfl, R7.on O7, HF.out _ _ _ ?_, ((K0r.then (Kp.of _ O6)).set (.inl (by simp)) _).then (Kp.of _ O7), fun e => by cases e⟩
          rw [if_neg (fun h => by omega)]
          exact Ans.fail _ _ _ _ _
        have hL' : ¬ (286 : Int) < (lg : Int) := by omega
        have hL'' : decide ((286 : Int) < (lg : Int)) = false := by simp; omega
        by_cases hB : 30 < bk
        · have hB' : (30 : Int) < (bk : Int) := by omega
          go_wp2_with fail
          refine (slensok_calls m A 0 19 19 wr RM hml (by omega) (by omega) hx100).mono ?_
          rintro e w6 ⟨rfl, O6⟩
          rw [HOK.out]
          have hr6 := hr.on O6
          have fr6 : ∀ i, w6.frozen? ⟨g, i, none⟩ = false := hr6.out.frozen
          have d6 : w6.cell? ⟨g, 2, none⟩ = some (.bool bb) := (hr6.out.cell 2).trans rfl
          go_wp2_with fail
          go_ret2
          have R7 : SR (w6.setCell ⟨g, 2, none⟩ (.bool true)) g s q true := ⟨hr6.out.set 2 (.bool true), hr.le, hr.sz⟩
          have O7 := ((On.refl (w6.setCell ⟨g, 2, none⟩ (.bool true))).alloc (.cells #[] 3)).alloc (.cells #[] 3)
          refine .mk ⟨_, _, q, true, [], [], rfl, R7.on O7, HF.out _ _ _ ?_, ((K0r.then (Kp.of _ O6)).set (.inl (by simp)) _).then (Kp.of _ O7), fun e => by cases e⟩
          rw [if_neg (fun h => by omega)]
          exact Ans.fail _ _ _ _ _
        have hB' : ¬ (30 : Int) < (bk : Int) := by omega
        have hB'' : decide ((30 : Int) < (bk : Int)) = false := by simp; omega
        have HF3 : RowKit.Hid (∀ y p' b', Ans (next (lenLoop m (lg + bk) 400 []) fun all => (if okLens (all.take lg) = true ∧ okLens (all.drop lg) = true then De.ret (all.take lg, all.drop lg) else De.bad)) s q bb y p' b' → Ans own s p b y p' b') := Lib.hid (fun y p' b' h => HF.out y p' b' (by rw [if_pos ⟨HOK.out, by omega, by omega⟩]; exact h))
        clear HF HA HD
        go_wp2_with fail
        refine (slensok_calls m A 0 19 19 wr RM hml (by omega) (by omega) hx100).mono ?_
        rintro e w6 ⟨rfl, O6⟩
        rw [HOK.out]
        go_wp2_with fail
        refine (scodes_calls m A 0 19 19 w6 (RM.on O6) hml (by omega) (by omega)).mono ?_
        rintro e w7 ⟨rc, cc, rfl, Nc, hc1, hc2, O7⟩
        have hcl : (codes m).length = 19 := by rw [codes_length]; exact hml
        rw [hcl] at Nc ⊢
        have O67 := O6.call O7
        have hr7 := hr.on O67
        have hz7 := O67.size
        have hz6 := O6.size
        have hzr0 := K0r.size
        have hcc : 19 ≤ cc := Nc.row.2.2.1
        have Rc := Nc.row.1.toO
        have RM7 := RM.on O67
        have hgr7 := hr.out.lt
        have frc : RowKit.Hid (rc ≠ g) := Lib.hid (by omega)
        have K07 := K0r.then (Kp.of [g] O67)
        have OE := (On.refl w7).alloc (.cells #[] 3)
        have NE := Nums.new w7 #[] [] rfl (by simp)
        have hr8 := hr7.on OE
        have Rc8 := Rc.on OE
        have RM8 := RM7.on OE
        have K08 := K07.then (Kp.of [g] OE)
        have hz8 := OE.size
        have hgl8 := hr8.out.lt
        clear Nc hcl RM Rc RM7
        go_wp2_with fail
        generalize hC : w7.heap.size = C at *
        generalize w7.alloc (.cells #[] 3) = w8 at *
        have hgC : g ≠ C := by omega
        have hCw : w.heap.size ≤ C := by omega
        have hrC : rc ≠ C := by omega
        have hAC : A ≠ C := by omega
        clear hC
        go_loopw [10] (fun o wr2 => ∃ (q2 : Nat) (b2 : Bool) (ra ca f : Nat) (all : List Nat), o = .slice (some ⟨ra, 0, none⟩) all.length ca ∧ SR wr2 g s q2 b2 ∧ Nums wr2 ra (.slice (some ⟨ra, 0, none⟩) all.length ca) all ∧ Kp [g, C] w8 wr2 ∧ (ra = C ∨ w8.heap.size ≤ ra) ∧ (∀ y ∈ all, y ≤ 15) ∧ 1 ≤ f ∧ (b2 = false → 400 ≤ f + all.length) ∧ all.length ≤ 600 ∧
          (∀ y p' b', Ans (lenLoop m (lg + bk) f all) s q2 b2 y p' b' → Ans (lenLoop m (lg + bk) 400 []) s q bb y p' b')) (fun o wr2 => tokFar g o wr2)
        case atStart => exact ⟨q, bb, C, 0, 400, [], rfl, hr8, NE, Kp.refl _ _, .inl rfl, by simp, by omega, fun _ => by simp, by simp, fun y p' b' h => h⟩
        case round =>
          obtain ⟨q2, b2, ra, ca, f, all, rfl, hr9, hN9, K9, hra, h15, hf1, hf4, hal, hF9⟩ := hrel
          have HF9 := Lib.hid hF9
          have H15 := Lib.hid h15
          have HF4 := Lib.hid hf4
          clear hF9 h15 hf4
          have d9 : wr.cell? ⟨g, 2, none⟩ = some (.bool b2) := (hr9.out.cell 2).trans rfl
          have hgra : g ≠ ra := by omega
          have K09 : Kp [g] w wr := K08.trans (T := [g, C]) K9 (fun y hy => by simp at hy ⊢; omega)
          have e5 : IntKind.i64.wrap ((lg : Int) + (bk : Int)) = ((lg + bk : Nat) : Int) := by rw [IntKind.wrap_i64]; omega
          obtain ⟨wt, hwt⟩ : ∃ wt, lg + bk = wt := ⟨_, rfl⟩
          have HWT := Lib.hid hwt
          rw [hwt] at e5
          generalize hnn : all.length = nn at *
          have HNN := Lib.hid hnn
          clear hnn
          have hwt1 : wt ≤ 316 := by omega
          clear hwt
          by_cases hlt : nn < wt
          · have hlt' : (nn : Int) < (wt : Int) := by omega
            cases b2 with
            | true =>
              have fr9 : ∀ i, wr.frozen? ⟨g, i, none⟩ = false := hr9.out.frozen
              have OA : ∀ W, On W ((W.alloc (.cells #[] 3)).alloc (.cells #[] 3)) := fun W => ((On.refl W).alloc _).alloc _
              have HOA := Lib.hid OA
              clear OA
              go_wp2_with fail
              go_ret2
              exact .mk ⟨_, _, q2, true, [], [], rfl, (show SR (wr.setCell ⟨g, 2, none⟩ (.bool true)) g s q2 true from ⟨hr9.out.set 2 (.bool true), hr9.le, hr9.sz⟩).on (HOA.out _), HF3.out _ _ _ (Ans.next (x := all) (HF9.out all q2 true ⟨fun _ => .inl rfl, fun e => (by cases e)⟩) ⟨fun _ => .inl rfl, fun e => (by cases e)⟩), (K09.set (.inl (by simp)) _).then (Kp.of _ (HOA.out _)), fun e => (by cases e)⟩
            | false =>
              obtain ⟨f, rfl⟩ : ∃ f', f = f' + 1 := ⟨f - 1, by omega⟩
              have hf4 := HF4.out rfl
              obtain ⟨wo, hwo⟩ : ∃ wo : World, wo = wr := ⟨_, rfl⟩
              subst hwo
              go_wp2_with fail
              refine (ssymbol_calls m g 19 A 0 19 rc cc s q2 false wo hr9 ((RM8.kp K9 (by simp; omega))) (Rc8.kp K9 (by simp; exact ⟨frc.out, hrC⟩)) hml (by omega) (by omega) hcc (Ne.symm hgA) frc.out).mono ?_
              rintro e w10 ⟨v, x, q3', b3, rfl, hr10, A10, hv, hvl, hvh, K10⟩
              have hN10 := hN9.kp K10 (by simpa using Ne.symm hgra)
              have hgl10 := hr10.out.lt
              have hz9 := K9.size
              have hz10 := K10.size
              have HV := Lib.hid hv
              have HA10 := Lib.hid A10
              clear hv A10
              go_wp2_with fail
              refine (smany_calls g ra ca nn x v s q3' b3 all w10 hr10 hN10 HNN.out (by omega) hgra H15.out hvl (by omega) (fun e => HV.out e)).mono ?_
              rintro e w11 ⟨q4, b4, r11, c11, l11, rfl, hr11, hN11, K11, hra11, A11, hl11, hl11'⟩
              go_wp2_with fail
              have hz11 := K11.size
              have hlen11 : nn ≤ l11.length ∧ (b4 = false → nn < l11.length) ∧ l11.length ≤ nn + 138 ∧ ∀ y ∈ l11, y ≤ 15 := by
                cases b4 with
                | true =>
                  rw [hl11' rfl, HNN.out]
                  exact ⟨Nat.le_refl _, fun e => (by cases e), by omega, H15.out⟩
                | false =>
                  obtain ⟨M, AG, rfl, hM1, hM2, hAG⟩ := hl11 rfl
                  rw [List.length_append, List.length_replicate, HNN.out]
                  refine ⟨by omega, fun _ => by omega, by omega, fun y hy => ?_⟩
                  rcases List.mem_append.1 hy with h | h
                  · exact H15.out y h
                  · rw [List.eq_of_mem_replicate h]; exact hAG
              obtain ⟨hl1, hl2, hl3, hl4⟩ := hlen11
              have HF11 : RowKit.Hid (∀ y p' b', Ans (lenLoop m (lg + bk) f l11) s q4 b4 y p' b' → Ans (lenLoop m (lg + bk) 400 []) s q bb y p' b') := Lib.hid (fun y p' b' h => HF9.out y p' b' (by
                rw [lenLoop_step (by rw [HNN.out, HWT.out]; omega)]
                exact Ans.next HA10.out (Ans.next A11 h)))
              refine ⟨⟨q4, b4, r11, c11, f, l11, rfl, hr11, hN11, ?_, by omega, hl4, by omega, fun e => by have := hl2 e; omega, by omega, HF11.out⟩, tokFar_lt hr9 hr11 hl1 hl2 (by omega)⟩
              exact (K9.then (K10.mono (fun y hy => .inl (by simp at hy ⊢; exact .inl hy)))).trans K11 (fun y hy => by simp at hy ⊢; omega)
          · have hlt' : ¬ (nn : Int) < (wt : Int) := by omega
            have hlt'' : decide ((nn : Int) < (wt : Int)) = false := by simp; omega
            obtain ⟨f, rfl⟩ : ∃ f', f = f' + 1 := ⟨f - 1, by omega⟩
            have fr9 : ∀ i, wr.frozen? ⟨g, i, none⟩ = false := hr9.out.frozen
            have OA : ∀ W, On W ((W.alloc (.cells #[] 3)).alloc (.cells #[] 3)) := fun W => ((On.refl W).alloc _).alloc _
            have HOA := Lib.hid OA
            clear OA
            cases b2 with
            | true =>
              go_wp2_with fail
              go_ret2
              refine .mk ⟨_, _, q2, true, [], [], rfl, (show SR (wr.setCell ⟨g, 2, none⟩ (.bool true)) g s q2 true from ⟨hr9.out.set 2 (.bool true), hr9.le, hr9.sz⟩).on (HOA.out _), HF3.out _ _ _ ?_, ((K09).set (.inl (by simp)) _).then (Kp.of _ (HOA.out _)), fun e => (by cases e)⟩
              exact Ans.next (x := all) (HF9.out all q2 true ⟨fun _ => .inl rfl, fun e => (by cases e)⟩) ⟨fun _ => .inl rfl, fun e => (by cases e)⟩
            | false =>
            by_cases heq : nn = wt
            · subst heq
              have hne1 : ((nn : Int) != (nn : Int)) = false := by simp
              have RA := hN9.row.1
              have hcap : nn ≤ ca := hN9.row.2.2.1
              have hAL : RowKit.Hid (∀ y p' b', Ans (if okLens (all.take lg) = true ∧ okLens (all.drop lg) = true then De.ret (all.take lg, all.drop lg) else De.bad) s q2 false y p' b' → Ans own s p b y p' b') := Lib.hid (fun y p' b' h => HF3.out y p' b' (Ans.next (x := all) (HF9.out all q2 false (by
                rw [lenLoop, if_pos (by have a := HNN.out; have b := HWT.out; omega), if_pos (by have a := HNN.out; have b := HWT.out; omega)]
                exact Ans.ret _ _ _ _)) h))
              have hwt2 := HWT.out
              have hcne : ¬ ca = lg := by omega
              have hcne2 : ca ≠ lg := hcne
              have hll : (all.take lg).length = lg := by rw [List.length_take, HNN.out]; omega
              have hld : (all.drop lg).length = nn - lg := by rw [List.length_drop, HNN.out]
              have RT : RowO wr ra 0 3 (i64s (all.take lg)) := by
                have := RA.sub 0 lg
                rw [List.drop_zero] at this
                have e : i64s (all.take lg) = (i64s all).take lg := by unfold i64s; rw [List.map_take]
                rw [e]; exact this
              have RD : RowO wr ra lg 3 (i64s (all.drop lg)) := by
                have := RA.sub lg (nn - lg)
                have e : i64s (all.drop lg) = ((i64s all).drop lg).take (nn - lg) := by
                  rw [List.take_of_length_le (by rw [List.length_drop, i64s_length, HNN.out]; omega)]
                  unfold i64s; rw [List.map_drop]
                rw [e]; exact this
              have hxt : ∀ y ∈ all.take lg, y ≤ 100000 := fun y hy => by have := H15.out y (List.mem_of_mem_take hy); omega
              have hxd : ∀ y ∈ all.drop lg, y ≤ 100000 := fun y hy => by have := H15.out y (List.mem_of_mem_drop hy); omega
              have HT := Lib.hid (slensok_calls (all.take lg) ra 0 lg ca wr RT hll (by omega) (by omega) hxt)
              have HDD := Lib.hid (fun W (O : On wr W) => slensok_calls (all.drop lg) ra lg (nn - lg) (ca - lg) W (RD.on O) hld (by omega) (by omega) hxd)
              have HLL := Lib.hid hll
              have HLD := Lib.hid hld
              have HRT := Lib.hid RT
              have HRD := Lib.hid RD
              clear hll hld RT RD hxt hxd
              have hb1 : (lg : Int) ≤ (nn : Int) := by omega
              have hb3 : (nn : Int) ≤ (ca : Int) := by omega
              have hb4 : (lg : Int) ≤ (ca : Int) := by omega
              have hbk30 : nn - lg = bk := by omega
              have HBK := Lib.hid hbk30
              clear hwt2 hbk30
              generalize hT : all.take lg = tk at *
              generalize hDr : all.drop lg = dr at *
              have hTT := Lib.hid hT
              have hDD := Lib.hid hDr
              clear hT hDr
              cases hk1 : okLens tk with
              | false =>
                have HK1 := Lib.hid hk1
                clear hk1
                go_wp2_with fail
                refine HT.out.mono ?_
                rintro e w12 ⟨rfl, O12⟩
                rw [HK1.out]
                have hr12 := hr9.on O12
                have d12 : w12.cell? ⟨g, 2, none⟩ = some (.bool false) := (hr12.out.cell 2).trans rfl
                have fr12 : ∀ i, w12.frozen? ⟨g, i, none⟩ = false := hr12.out.frozen
                have K12 := K09.then (Kp.of [g] O12)
                go_wp2_with fail
                go_ret2
                refine .mk ⟨_, _, q2, true, [], [], rfl, (show SR (w12.setCell ⟨g, 2, none⟩ (.bool true)) g s q2 true from ⟨hr12.out.set 2 (.bool true), hr12.le, hr12.sz⟩).on (HOA.out _), hAL.out _ _ _ ?_, ((K12).set (.inl (by simp)) _).then (Kp.of _ (HOA.out _)), fun e => (by cases e)⟩
                rw [if_neg (fun h => by have := HK1.out; rw [h.1] at this; cases this)]
                exact Ans.fail _ _ _ _ _
              | true =>
                have HK1 := Lib.hid hk1
                clear hk1
                cases hk2 : okLens dr with
                | false =>
                  have HK2 := Lib.hid hk2
                  clear hk2
                  go_wp2_with fail
                  refine HT.out.mono ?_
                  rintro e w12 ⟨rfl, O12⟩
                  rw [HK1.out]
                  go_wp2_with fail
                  refine (HDD.out w12 O12).mono ?_
                  rintro e w13 ⟨rfl, O13⟩
                  rw [HK2.out]
                  have O23 := O12.call O13
                  have hr12 := hr9.on O23
                  have d12 : w13.cell? ⟨g, 2, none⟩ = some (.bool false) := (hr12.out.cell 2).trans rfl
                  have fr12 : ∀ i, w13.frozen? ⟨g, i, none⟩ = false := hr12.out.frozen
                  have K12 := K09.then (Kp.of [g] O23)
                  go_wp2_with fail
                  go_ret2
                  refine .mk ⟨_, _, q2, true, [], [], rfl, (show SR (w13.setCell ⟨g, 2, none⟩ (.bool true)) g s q2 true from ⟨hr12.out.set 2 (.bool true), hr12.le, hr12.sz⟩).on (HOA.out _), hAL.out _ _ _ ?_, ((K12).set (.inl (by simp)) _).then (Kp.of _ (HOA.out _)), fun e => (by cases e)⟩
                  rw [if_neg (fun h => by have := HK2.out; rw [h.2] at this; cases this)]
                  exact Ans.fail _ _ _ _ _
                | true =>
                  have HK2 := Lib.hid hk2
                  clear hk2
                  go_wp2_with fail
                  refine HT.out.mono ?_
                  rintro e w12 ⟨rfl, O12⟩
                  rw [HK1.out]
                  go_wp2_with fail
                  refine (HDD.out w12 O12).mono ?_
                  rintro e w13 ⟨rfl, O13⟩
                  rw [HK2.out]
                  have O23 := O12.call O13
                  have hr12 := hr9.on O23
                  have d12 : w13.cell? ⟨g, 2, none⟩ = some (.bool false) := (hr12.out.cell 2).trans rfl
                  have K12 := K09.then (Kp.of [g] O23)
                  go_wp2_with fail
                  go_quiet (fail)
                  go_wp2_with fail
                  go_ret2
                  have OD := (On.refl w13).drewN nq
                  refine .mk ⟨_, _, q2, false, tk, dr, rfl, hr12.on OD, hAL.out _ _ _ ?_, K12.drewN _, fun _ => ⟨ra, ca, ca - lg, by rw [HLL.out]; rfl, by rw [HLL.out, HLD.out]; rfl, by rw [HLL.out]; omega, by rw [HLD.out, HBK.out]; omega, by rw [HLL.out]; omega, by rw [HLD.out]; omega, (HRT.out.on O23).on OD, by rw [HLL.out]; exact (HRD.out.on O23).on OD, by have := K08.size; omega⟩⟩
                  rw [if_pos ⟨HK1.out, HK2.out⟩]
                  exact Ans.ret _ _ _ _
            · have hne1 : ((nn : Int) != (wt : Int)) = true := by simp; omega
              go_wp2_with fail
              go_ret2
              refine .mk ⟨_, _, q2, true, [], [], rfl, (show SR (wr.setCell ⟨g, 2, none⟩ (.bool true)) g s q2 true from ⟨hr9.out.set 2 (.bool true), hr9.le, hr9.sz⟩).on (HOA.out _), HF3.out _ _ _ ?_, ((K09).set (.inl (by simp)) _).then (Kp.of _ (HOA.out _)), fun e => (by cases e)⟩
              refine Ans.next (x := all) (HF9.out all q2 true ?_) ⟨fun _ => .inl rfl, fun e => (by cases e)⟩
              rw [lenLoop, if_pos (by have a := HNN.out; have b := HWT.out; omega), if_neg (by have a := HNN.out; have b := HWT.out; omega)]
              exact Ans.fail _ _ _ _ _
end Go.Proofs.YtncidljdfipigaaDoor.Wi

