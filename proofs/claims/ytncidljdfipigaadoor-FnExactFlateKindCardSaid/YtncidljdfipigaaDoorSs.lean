/- The specification's reader takes a symbol. Conditions: a reader, lengths and their codes. -/
import Derived.Test.YtncidljdfipigaaDoorRs
import Derived.Test.YtncidljdfipigaaDoorSi
namespace Go.Proofs.YtncidljdfipigaaDoor.Wi
open Go.RowKit Go.Proofs.YtncidljdfipigaaDoor.Mem Go.Proofs.YtncidljdfipigaaDoor.Bt Go.Proofs.YtncidljdfipigaaDoor.Cd Go.Proofs.YtncidljdfipigaaDoor.De
set_option linter.unusedVariables false
set_option linter.unusedSimpArgs false
/-- What symbol leaves. -/
structure SymOut (lens : List Nat) (n : Nat) (s : ByteArray) (p : Nat) (b : Bool) (g : Nat) (w : World) (e : Ending) (w' : World) : Prop where mk ::
  out : ∃ (v : Int) (x p' : Nat) (b' : Bool), e = .returned (.int .i64 v) ∧ SR w' g s p' b' ∧ Ans (sym lens) s p b x p' b' ∧ (b' = false → v = x ∧ x < n) ∧ -1 ≤ v ∧ v ≤ n ∧ Kp [g] w w'
theorem find_not {lens : List Nat} {l c : Nat} (h : ∀ j, j < lens.length → ¬ (lens.getD j 0 = l ∧ code lens j = c)) : find lens l c = none := by
  unfold find
  refine List.find?_eq_none.2 fun j hj => ?_
  simpa using h j (by simpa using hj)
set_option maxRecDepth 100000 in
set_option maxHeartbeats 2000000 in
theorem ssymbol_calls (lens : List Nat) (g n gl ol cl ga ca : Nat) (s : ByteArray) (p : Nat) (b : Bool) (w : World) (hw : SR w g s p b) (hl : RowO w gl ol 3 (i64s lens)) (ha : RowO w ga 0 3 (i64s (codes lens)))
    (hn : lens.length = n) (hn2 : n ≤ 1000) (hc : n ≤ cl) (hca : n ≤ ca) (fl : gl ≠ g) (fa : ga ≠ g) :
    Calls Tryd.prog 150 #[.pointer (some ⟨g, 0, none⟩), .slice (some ⟨gl, ol, none⟩) n cl, .slice (some ⟨ga, 0, none⟩) n ca] w fun e w' => SymOut lens n s p b g w e w' := by
  have HN := Lib.hid hn
  have HF1 := Lib.hid fl
  have HF2 := Lib.hid fa
  clear hn fl fa
  go_enter Tryd.func150, Tryd.ntmps150
  go_wp2_with fail
  go_loopw [7, 8] (fun y x wr => ∃ (l c q : Nat) (b' : Bool), x = .int .i64 (l : Int) ∧ 1 ≤ l ∧ l ≤ 16 ∧ y = .int .i64 (c : Int) ∧ RowKit.Hid (c < 2 ^ (l - 1)) ∧ SR wr g s q b' ∧ Kp [g] w wr ∧ (b' = true → b = true ∨ sym lens (rest s p) = none) ∧ (b' = false → b = false ∧ sym lens (rest s p) = symGo lens (16 - l) l c (rest s q))) (fun _ x _ => 16 - (intOf x).toNat)
  case atStart => exact ⟨1, 0, p, b, rfl, by omega, by omega, rfl, Lib.hid (by decide), hw, Kp.refl _ _, fun e => .inl e, fun e => ⟨e, rfl⟩⟩
  case round =>
    obtain ⟨l, c, q, b', rfl, hl1, hl16, rfl, HC, hr, K, hbad, hgood⟩ := hrel
    have c2 : wr.cell? ⟨g, 2, none⟩ = some (.bool b') := (hr.out.cell 2).trans rfl
    have fr : ∀ i, wr.frozen? ⟨g, i, none⟩ = false := hr.out.frozen
    cases hb' : b' with
    | true =>
      rw [hb'] at c2 hr hbad
      have HB := Lib.hid (hbad rfl)
      clear hbad hgood
      by_cases hlt : l ≤ 15
      · have hlt' : (l : Int) ≤ 15 := by omega
        go_wp2_with fail
        go_ret
        exact ⟨-1, 0, q, true, rfl, ⟨hr.out.set 2 (.bool true), hr.le, hr.sz⟩, ⟨fun _ => HB.out, fun e => (by cases e)⟩, fun e => (by cases e), by omega, by omega, K.set (.inl (by simp)) _⟩
      · have hlt' : decide ((l : Int) ≤ 15) = false := by simp; omega
        go_wp2_with fail
        go_ret
        exact ⟨-1, 0, q, true, rfl, ⟨hr.out.set 2 (.bool true), hr.le, hr.sz⟩, ⟨fun _ => HB.out, fun e => (by cases e)⟩, fun e => (by cases e), by omega, by omega, K.set (.inl (by simp)) _⟩
    | false =>
      rw [hb'] at c2 hr hgood
      obtain ⟨g1, g2⟩ := hgood rfl
      have HG2 := Lib.hid g2
      clear hbad hgood g2
      by_cases hlt : l ≤ 15
      · have hlt' : (l : Int) ≤ 15 := by omega
        have hp : 2 ^ (l - 1) ≤ 2 ^ 14 := Nat.pow_le_pow_right (by omega) (by omega)
        have hp2 : 2 ^ (l + 1 - 1) = 2 * 2 ^ (l - 1) := by rw [show l + 1 - 1 = (l - 1) + 1 from by omega, Nat.pow_succ, Nat.mul_comm]
        have hx := numAt_lt s q 1
        have HCb := Lib.hid (sbit_calls g s q false wr hr)
        have hql := hr.le
        obtain ⟨x, hxx⟩ : ∃ x, numAt s q 1 = x := ⟨_, rfl⟩
        rw [hxx] at hx
        have HX := Lib.hid hxx
        have hcl := HC.out
        have e1 : IntKind.i64.wrap (2 * (c : Int)) = 2 * (c : Int) := by rw [IntKind.wrap_i64]; omega
        have e2 : IntKind.i64.wrap (2 * (c : Int) + (x : Int)) = ((2 * c + x : Nat) : Int) := by rw [IntKind.wrap_i64]; omega
        have hc2 : 2 * c + x < 2 * 2 ^ (l - 1) := by omega
        rw [← hp2] at hc2
        have HC2 := Lib.hid hc2
        have hgood2 : (false || decide (8 * s.size < q + 1)) = false → sym lens (rest s p) = match find lens l (2 * c + x) with
            | some k => some (k, rest s (min (q + 1) (8 * s.size)))
            | none => symGo lens (16 - (l + 1)) (l + 1) (2 * c + x) (rest s (min (q + 1) (8 * s.size))) := fun e => by
          simp only [Bool.or_eq_false_iff, decide_eq_false_iff_not] at e
          rw [HG2.out, show 16 - l = (16 - (l + 1)) + 1 from by omega, symGo_step (by omega), HX.out, Nat.min_eq_left (by omega)]
          cases find lens l (2 * c + x) <;> rfl
        have hbad2 : (false || decide (8 * s.size < q + 1)) = true → sym lens (rest s p) = none := fun e => by
          simp only [Bool.or_eq_true, decide_eq_true_eq] at e
          rw [HG2.out]
          exact symGo_end (by rcases e with e | e; · cases e
                              · omega)
        obtain ⟨cx, hcx⟩ : ∃ cx, 2 * c + x = cx := ⟨_, rfl⟩
        rw [hcx] at e2 hgood2 HC2
        have HGD := Lib.hid hgood2
        have HBD := Lib.hid hbad2
        clear hgood2 hbad2 hp hp2 hc2 hcx hxx hcl
        have K0 := K
        go_wp2_with fail
        refine HCb.out.mono ?_
        rintro e w2 ⟨rfl, hr2, K2⟩
        rw [HX.out]
        generalize hbb : (false || decide (8 * s.size < q + 1)) = bb at *
        generalize hqq : min (q + 1) (8 * s.size) = qq at *
        have K3 := K.then K2
        have hl2 := hl.kp K3 (by simpa using HF1.out)
        have ha2 := ha.kp K3 (by simpa using HF2.out)
        go_wp2_with fail
        go_loopw [9] (fun x w3 => ∃ i : Nat, x = .int .i64 (i : Int) ∧ i ≤ n ∧ w3 = w2 ∧ ∀ j, j < i → ¬ (lens.getD j 0 = l ∧ code lens j = cx)) (fun x _ => n - (intOf x).toNat)
        case atStart => exact ⟨0, rfl, by omega, rfl, fun j hj => by omega⟩
        case round =>
          obtain ⟨i, rfl, hi, hw3, hno⟩ := hrel
          obtain rfl : w2 = wr := hw3.symm
          have HNO := Lib.hid hno
          clear hno
          by_cases hin : i < n
          · have hin' : (i : Int) < n := by omega
            have hil : i < lens.length := by rw [HN.out]; exact hin
            have d0 := hl2.cell (i64s_get hil)
            have d1 := ha2.cell (i64s_get (l := codes lens) (i := i) (by rw [codes_length]; exact hil))
            rw [codes_getD lens hil] at d1
            obtain ⟨y, hy⟩ : ∃ y, lens.getD i 0 = y := ⟨_, rfl⟩
            obtain ⟨z, hz⟩ : ∃ z, code lens i = z := ⟨_, rfl⟩
            rw [hy] at d0
            rw [hz] at d1
            have HY := Lib.hid hy
            have HZ := Lib.hid hz
            clear hy hz
            rw [Nat.zero_add] at d1
            by_cases hyl : y = l
            · by_cases hzc : z = cx
              · have hyl' : ((y : Int) == (l : Int)) = true := by simp; omega
                have hzc' : ((z : Int) == (cx : Int)) = true := by simp; omega
                have hf := find_is hil (HY.out.trans hyl) (HZ.out.trans hzc) hl1 (by omega)
                have HF := Lib.hid hf
                clear hf
                go_wp2_with fail
                go_ret
                refine ⟨i, i, qq, bb, rfl, hr2, ⟨fun e => .inr (HBD.out e), fun e => ⟨(by first | exact g1 | rfl), ?_⟩⟩, fun _ => ⟨rfl, hin⟩, by omega, by omega, K3⟩
                have := HGD.out e
                rw [HF.out] at this
                exact this
              · have hyl' : ((y : Int) == (l : Int)) = true := by simp; omega
                have hzc' : ((z : Int) == (cx : Int)) = false := by simp; omega
                go_wp2_with fail
                go_roundw
                case rel => exact ⟨i + 1, by go_num, by omega, (by first | rfl | trivial), fun j hj => (by
                  rcases Nat.lt_or_ge j i with h | h
                  · exact HNO.out j h
                  · obtain rfl : j = i := by omega
                    rw [HZ.out]; exact fun h => hzc h.2)⟩
                case measure => simp [intOf]; omega
            · have hyl' : ((y : Int) == (l : Int)) = false := by simp; omega
              go_wp2_with fail
              go_roundw
              case rel => exact ⟨i + 1, by go_num, by omega, (by first | rfl | trivial), fun j hj => (by
                rcases Nat.lt_or_ge j i with h | h
                · exact HNO.out j h
                · obtain rfl : j = i := by omega
                  rw [HY.out]; exact fun h => hyl h.1)⟩
              case measure => simp [intOf]; omega
          · obtain rfl : i = n := by omega
            have hf : find lens l cx = none := find_not (fun j hj => HNO.out j (by rw [← HN.out]; exact hj))
            have HF := Lib.hid hf
            clear hf
            go_wp2_with fail
            go_roundw
            case rel =>
              refine ⟨l + 1, cx, qq, bb, by go_num, by omega, by omega, rfl, Lib.hid HC2.out, hr2, K3, fun e => .inr (HBD.out e), fun e => ⟨(by first | exact g1 | rfl), ?_⟩⟩
              have := HGD.out e
              rw [HF.out] at this
              exact this
            case measure => simp [intOf]; omega
      · have hlt' : decide ((l : Int) ≤ 15) = false := by simp; omega
        obtain rfl : l = 16 := by omega
        go_wp2_with fail
        go_ret
        exact ⟨-1, 0, q, true, rfl, ⟨hr.out.set 2 (.bool true), hr.le, hr.sz⟩, ⟨fun _ => .inr HG2.out, fun e => (by cases e)⟩, fun e => (by cases e), by omega, by omega, K.set (.inl (by simp)) _⟩
end Go.Proofs.YtncidljdfipigaaDoor.Wi
