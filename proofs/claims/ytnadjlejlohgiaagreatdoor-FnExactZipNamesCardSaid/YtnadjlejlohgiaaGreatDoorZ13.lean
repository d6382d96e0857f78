/- Own texts joined: Byt, Ad. -/
import Derived.Deep.DeepCutAuto
import Derived.Test.YtnadjlejlohgiaaGreatDoorZ5
import Derived.Test.YtnadjlejlohgiaaGreatDoorZ6
import Derived.Test.YtnadjlejlohgiaaGreatDoorZ10
import Derived.Test.YtnadjlejlohgiaaGreatDoorZ12
/- Rows of bytes that are not nil. -/
namespace Go.Proofs.YtnadjlejlohgiaaGreatDoor.Wi
open Go.RowKit Go.Proofs.YtnadjlejlohgiaaGreatDoor.Mem
set_option linter.unusedVariables false
set_option linter.unusedSimpArgs false
/-- A slice that is not nil, of bytes at block r. -/
structure By (w : World) (r cap : Nat) (l : List Nat) : Prop where mk ::
  out : Bytes w r (.slice (some ⟨r, 0, none⟩) l.length cap) l
theorem By.lt {w : World} {r cap : Nat} {l : List Nat} (h : By w r cap l) : r < w.heap.size := by
  rcases h.out.own.2 with ⟨h1, _⟩ | ⟨g, c, cur, hv, _, hh, _⟩
  · cases h1
  · have : g = r := h.out.at_ g (by rw [hv]; rfl)
    subst this
    rcases Nat.lt_or_ge g w.heap.size with h | h
    · exact h
    · rw [Array.getElem?_eq_none h] at hh; cases hh
theorem By.cell {w : World} {r cap : Nat} {l : List Nat} (h : By w r cap l) {i : Nat} (hi : i < l.length) : w.cell? ⟨r, i, none⟩ = some (.int .u8 (l.getD i 0 : Nat)) := by
  obtain ⟨_, _, _, _, R⟩ := h.out.parts (by intro e; rw [e] at hi; simp at hi)
  exact R.cell (u8s_get hi)
theorem By.kp {S : List Nat} {w w' : World} {r cap : Nat} {l : List Nat} (h : By w r cap l) (k : Kp S w w') (hr : r ∉ S) : By w' r cap l := ⟨h.out.kp k hr⟩
theorem By.on {w w' : World} {r cap : Nat} {l : List Nat} (h : By w r cap l) (O : On w w') : By w' r cap l := h.kp (Kp.of [] O) (by simp)
end Go.Proofs.YtnadjlejlohgiaaGreatDoor.Wi

/- The program adds to bytes what a token tells that leads back. Conditions: a row of bytes, sizes. -/
namespace Go.Proofs.YtnadjlejlohgiaaGreatDoor.Wi
open Go.RowKit Go.Proofs.YtnadjlejlohgiaaGreatDoor.Mem Go.Proofs.YtnadjlejlohgiaaGreatDoor.Bt Go.Proofs.YtnadjlejlohgiaaGreatDoor.Lz
set_option linter.unusedVariables false
set_option linter.unusedSimpArgs false
def backOk (n L B : Nat) : Prop := 3 ≤ L ∧ L ≤ 60 ∧ 1 ≤ B ∧ B ≤ 250 ∧ B ≤ n
instance (n L B : Nat) : Decidable (backOk n L B) := by unfold backOk; infer_instance
theorem add_back {l : List Nat} {L B : Nat} (h1 : 1 ≤ L) : add l ⟨0, (L : Int), (B : Int)⟩ = if backOk l.length L B then some (copy l B L) else none := by
  unfold add
  rw [if_neg (by simp; omega)]
  by_cases h : backOk l.length L B
  · rw [if_pos h]
    unfold backOk at h
    rw [if_pos (by simp; omega)]; rfl
  · rw [if_neg h]
    unfold backOk at h
    rw [if_neg (by simp; omega)]
/-- What a call on a row of bytes leaves: all but its block; the row may lie in new memory. -/
structure Mb (r : Nat) (w : World) (r' : Nat) (w' : World) : Prop where
  kp : Kp [r] w w'
  at_ : r' = r ∨ w.heap.size ≤ r'
theorem Mb.refl (r : Nat) (w : World) : Mb r w r w := ⟨Kp.refl _ _, .inl rfl⟩
theorem Mb.trans {r r1 r2 : Nat} {w w1 w2 : World} (h : Mb r w r1 w1) (k : Mb r1 w1 r2 w2) : Mb r w r2 w2 := by
  refine ⟨h.kp.trans k.kp (fun x hx => ?_), ?_⟩
  · simp only [List.mem_singleton] at hx ⊢
    rcases h.at_ with e | e <;> omega
  · have := h.kp.size
    rcases k.at_ with e | e
    · rw [e]; exact h.at_
    · right; omega
set_option maxRecDepth 100000 in
theorem iadd_calls (r cap n L B : Nat) (l : List Nat) (w : World) (hb : By w r cap l) (hn : l.length = n) (hn2 : n ≤ 1000) (hL : 1 ≤ L) (hL2 : L ≤ 100000) (hB2 : B ≤ 100000) :
    Calls Tryz.prog 125 #[.slice (some ⟨r, 0, none⟩) n cap, .agg #[.int .i64 0, .int .i64 (L : Int), .int .i64 (B : Int)]] w fun e w' =>
      (backOk n L B ∧ ∃ r' cap', e = .returned (.tuple #[.slice (some ⟨r', 0, none⟩) (n + L) cap', .bool true]) ∧ By w' r' cap' (copy l B L) ∧ Mb r w r' w') ∨
      (¬ backOk n L B ∧ e = .returned (.tuple #[.slice none 0 0, .bool false]) ∧ On w w') := by
  have HN := Lib.hid hn
  clear hn
  have hm : (if (n : Int) < 250 then (n : Int) else 250) = ((min 250 n : Nat) : Int) := by split <;> omega
  have hm2 : (if (250 : Int) ≤ (n : Int) then (250 : Int) else (n : Int)) = ((min 250 n : Nat) : Int) := by split <;> omega
  have hL0 : ((L : Int) == 0) = false := by simp; omega
  have BA := Blk.new w 117 #[.int .i64 0, .int .i64 (L : Int), .int .i64 (B : Int)]
  have OA := (On.refl w).alloc (.cells #[.int .i64 0, .int .i64 (L : Int), .int .i64 (B : Int)] 117)
  have hrl := hb.lt
  by_cases h1 : 3 ≤ L ∧ L ≤ 60
  · by_cases h2 : 1 ≤ B ∧ B ≤ min 250 n
    · have hok : backOk n L B := by unfold backOk; omega
      go_enter Tryz.func125, Tryz.ntmps125
      go_wp2_with fail
      refine (within_yes _ (by omega) (by omega)).mono ?_
      rintro e w2 ⟨rfl, hw⟩
      obtain rfl : _ = w2 := hw.symm
      go_wp2_with fail
      refine (within_yes _ (by omega) (by omega)).mono ?_
      rintro e w2 ⟨rfl, hw⟩
      obtain rfl : _ = w2 := hw.symm
      have hz : w.heap.size ≠ r := by omega
      have hb1 := hb.on OA
      have hml : ∀ k, (copy l B k).length = n + k := fun k => by rw [copy_length, HN.out]
      have HML := Lib.hid hml
      have c1 : (w.alloc (.cells #[.int .i64 0, .int .i64 (L : Int), .int .i64 (B : Int)] 117)).cell? ⟨w.heap.size, 1, none⟩ = some (.int .i64 (L : Int)) := (BA.cell 1).trans rfl
      have hbs := BA.lt
      have HOK := Lib.hid hok
      clear hml hm hm2 hok
      generalize w.heap.size = tb at *
      generalize w.alloc (.cells #[.int .i64 0, .int .i64 (L : Int), .int .i64 (B : Int)] 117) = w1 at *
      go_wp2_with fail
      go_loopw [0, 44] (fun o x wr => ∃ (k r' cap' : Nat), x = .int .i64 (k : Int) ∧ k ≤ L ∧ o = .slice (some ⟨r', 0, none⟩) (n + k) cap' ∧ By wr r' cap' (copy l B k) ∧ Mb r w1 r' wr) (fun _ x _ => L - (intOf x).toNat)
      case atStart => exact ⟨0, r, cap, rfl, by omega, rfl, hb1, Mb.refl _ _⟩
      case round =>
        obtain ⟨k, r', cap', rfl, hk, rfl, hB, M⟩ := hrel
        by_cases hlt : k < L
        · have hlen := HML.out k
          have hr' : tb ≠ r' := by rcases M.at_ with e | e <;> omega
          have BT := M.kp.blk BA (by simp; exact hz)
          have d2 : wr.cell? ⟨tb, 2, none⟩ = some (.int .i64 (B : Int)) := (BT.cell 2).trans rfl
          have hbk := HOK.out
          unfold backOk at hbk
          have hi : n + k - B < (copy l B k).length := by rw [hlen]; omega
          have hcell := hB.cell hi
          have hst : copy l B (k + 1) = copy l B k ++ [(copy l B k).getD (n + k - B) 0] := by rw [copy, hlen]
          have hby : Bytes wr r' (.slice (some ⟨r', 0, none⟩) (n + k) cap') (copy l B k) := by have := hB.out; rw [hlen] at this; exact this
          have HST := Lib.hid hst
          have HLEN := Lib.hid hlen
          have hk2 : (k : Int) < L := by omega
          clear hst hlen hi hbk
          generalize copy l B k = lk at *
          generalize lk.getD (n + k - B) 0 = x at *
          obtain ⟨m, hm⟩ : ∃ m, n + k = m := ⟨_, rfl⟩
          have e1 : IntKind.i64.wrap ((m : Int) - (B : Int)) = ((m - B : Nat) : Int) := by have := HOK.out; unfold backOk at this; rw [IntKind.wrap_i64]; omega
          have e2 : ((m - B : Nat) : Int) < m := by have := HOK.out; unfold backOk at this; omega
          rw [hm] at hcell hby ⊢
          have HM := Lib.hid hm
          have hmle : m ≤ 101000 := by omega
          clear hm
          generalize m - B = mb at *
          go_wp2_with (at_builtin; go_must (refine wpList_byte (x := x) rfl _ _ rfl rfl hby rfl (by rw [HLEN.out, HM.out]; omega) ?_); intro r2 cap2 w2 hby2 hr2 hrl2 K2 hc1 hc2)
          go_roundw
          case rel =>
            refine ⟨k + 1, r2, cap2, by go_num, by omega, ?_, ?_, ?_⟩
            · rw [HLEN.out]; rfl
            · rw [HST.out]
              refine ⟨?_⟩
              rw [List.length_append]
              exact hby2
            · exact M.trans ⟨K2, hr2⟩
          case measure => simp [intOf]; omega
        · obtain rfl : k = L := by omega
          go_wp2_with fail
          go_ret2
          refine .inl ⟨HOK.out, r', cap', rfl, hB, ?_⟩
          refine ⟨(Kp.of [r] OA).then M.kp, ?_⟩
          have := OA.size
          rcases M.at_ with e | e <;> omega
    · go_enter Tryz.func125, Tryz.ntmps125
      go_wp2_with fail
      refine (within_yes _ (by omega) (by omega)).mono ?_
      rintro e w2 ⟨rfl, hw⟩
      obtain rfl : _ = w2 := hw.symm
      go_wp2_with fail
      refine (within_no _ (by omega)).mono ?_
      rintro e w2 ⟨rfl, hw⟩
      obtain rfl : _ = w2 := hw.symm
      go_wp2_with fail
      go_ret2
      exact .inr ⟨by unfold backOk; omega, rfl, OA⟩
  · go_enter Tryz.func125, Tryz.ntmps125
    go_wp2_with fail
    refine (within_no _ (by omega)).mono ?_
    rintro e w2 ⟨rfl, hw⟩
    obtain rfl : _ = w2 := hw.symm
    go_wp2_with fail
    go_ret2
    exact .inr ⟨by unfold backOk; omega, rfl, OA⟩
end Go.Proofs.YtnadjlejlohgiaaGreatDoor.Wi

