/- Own texts joined: Ws, WCode. -/
import Derived.Deep.RegionHeld3
import Derived.Deep.AppendLies
import Derived.Deep.RegionLaw
import Derived.Deep.QuietTactic
import Derived.BigQuiet
import Derived.Test.YtnadjlejlohgiaaGreatDoorW0
import Derived.Test.YtnadjlejlohgiaaGreatDoorW1
import Derived.Test.YtnadjlejlohgiaaGreatDoorW2
/- The reference's writer of bits: what put and whole do. Conditions: a writer, sizes. -/
namespace Go.Proofs.YtnadjlejlohgiaaGreatDoor.Wi
open Go.RowKit Go.Proofs.YtnadjlejlohgiaaGreatDoor.Mem Go.Proofs.YtnadjlejlohgiaaGreatDoor.Bt
set_option linter.unusedVariables false
set_option linter.unusedSimpArgs false
/-- The reference's writer at block g, its bytes at block r: what bits it holds. -/
structure SW (w : World) (g r : Nat) (bs : List Bool) : Prop where mk :: (out : ∃ v, Blk w g 153 #[v, .int .i64 ((val (bs.drop (8 * (bs.length / 8))) : Nat) : Int), .int .i64 ((bs.length % 8 : Nat) : Int)] ∧ Bytes w r v (pack (bs.take (8 * (bs.length / 8)))) ∧ (r ≠ g ∨ v = .slice none 0 0))
theorem pow_le {n m : Nat} (h : n ≤ m) : (2 : Nat) ^ n ≤ 2 ^ m := Nat.pow_le_pow_right (by omega) h
theorem ret_i {k : IntKind} {a b : Int} (h : a = b) : Ending.returned (.int k a) = .returned (.int k b) := by rw [h]
set_option maxRecDepth 100000 in
theorem pow_same (n m : Nat) (hm : Hid (2 ^ n = m)) (hn : n ≤ 40) (w : World) : Calls Tryz.prog 161 #[.int .i64 n] w (fun e w' => e = .returned (.int .i64 m) ∧ w' = w) := by
  go_enter Tryz.func161, Tryz.ntmps161
  go_wp2_with fail
  go_loop [0, 3] (fun a b => ∃ k q x : Nat, q + k = n ∧ RowKit.Hid (x = 2 ^ k) ∧ x ≤ 1099511627776 ∧ a = .int .i64 (q : Int) ∧ b = .int .i64 (x : Int)) (fun a _ => (intOf a).toNat)
  case atStart => exact ⟨0, n, 1, by omega, Lib.hid rfl, by omega, rfl, rfl⟩
  case round =>
    obtain ⟨k, q, x, hk, hx, hx2, rfl, rfl⟩ := hrel
    have HK := Lib.hid hk
    have hq40 : q ≤ 40 := by omega
    clear hk
    by_cases hlt : 0 < q
    · have h2 := pow_le (show k + 1 ≤ 40 by have := HK.out; omega)
      have h3 : 2 ^ (k + 1) = 2 * x := by rw [Nat.pow_succ, hx.out]; omega
      have h4 : 2 * x ≤ 1099511627776 := by omega
      have H3 := Lib.hid h3
      clear h2 h3
      obtain ⟨q', rfl⟩ : ∃ q', q = q' + 1 := ⟨q - 1, by omega⟩
      go_wp2_with fail
      go_round
      case rel => exact ⟨k + 1, q', 2 * x, by have := HK.out; omega, Lib.hid H3.out.symm, h4, by go_num, by go_num⟩
      case measure => simp [intOf]
    · obtain rfl : q = 0 := by omega
      go_wp2_with fail
      go_ret
      exact ⟨ret_i (by have := HK.out; have := hm.out; rw [hx.out, ← hm.out]; congr 2; omega), rfl⟩
theorem sw_full {bs : List Bool} {b : Bool} (h : bs.length % 8 = 7) : pack (bs.take (8 * (bs.length / 8))) ++ [val (bs.drop (8 * (bs.length / 8))) + 2 ^ 7 * b1 b] = pack (bs ++ [b]) ∧ (bs ++ [b]).length % 8 = 0 := by
  constructor
  · have e : bs ++ [b] = bs.take (8 * (bs.length / 8)) ++ (bs.drop (8 * (bs.length / 8)) ++ [b]) := by rw [← List.append_assoc, List.take_append_drop]
    rw [e, pack_append _ _ (by rw [List.length_take]; omega)]
    congr 1
    have hl : (bs.drop (8 * (bs.length / 8)) ++ [b]).length = 8 := by rw [List.length_append, List.length_drop, List.length_singleton]; omega
    unfold pack
    rw [hl]
    show _ = [val ((bs.drop (8 * (bs.length / 8)) ++ [b]).take 8)]
    rw [List.take_of_length_le (by omega), val_append, List.length_drop, show bs.length - 8 * (bs.length / 8) = 7 from by omega]
    simp [val]
  · rw [List.length_append, List.length_singleton]; omega
theorem sw_part {bs : List Bool} {b : Bool} (h : bs.length % 8 ≠ 7) : (bs ++ [b]).take (8 * ((bs ++ [b]).length / 8)) = bs.take (8 * (bs.length / 8)) ∧ val ((bs ++ [b]).drop (8 * ((bs ++ [b]).length / 8))) = val (bs.drop (8 * (bs.length / 8))) + 2 ^ (bs.length % 8) * b1 b ∧ (bs ++ [b]).length % 8 = bs.length % 8 + 1 := by
  have e : (bs ++ [b]).length / 8 = bs.length / 8 := by rw [List.length_append, List.length_singleton]; omega
  rw [e]
  refine ⟨?_, ?_, by rw [List.length_append, List.length_singleton]; omega⟩
  · rw [List.take_append, show 8 * (bs.length / 8) - bs.length = 0 from by omega, List.take_zero, List.append_nil]
  · rw [List.drop_append, show 8 * (bs.length / 8) - bs.length = 0 from by omega, List.drop_zero, val_append, List.length_drop, show bs.length - 8 * (bs.length / 8) = bs.length % 8 from by omega]
    simp [val]
theorem sw_close {w w1 W : World} {g r r1 r' r2 cap z : Nat} {L : List Nat} {bs : List Bool} {v : Value} {cs : Array Value} (M : Mv g r w r1 W) (hr0 : r' = r1 ∨ r' = W.heap.size) (B : Blk W g 153 cs) (hrg : r' ≠ g)
    (hf : L ++ [z] = pack bs ∧ bs.length % 8 = 0) (B4 : Blk w1 g 153 #[v, .int .i64 (z : Int), .int .i64 8]) (hby : Bytes w1 r2 (.slice (some ⟨r2, 0, none⟩) (L.length + 1) cap) (L ++ [z]))
    (hr2 : r2 = r' ∨ (W.alloc (.cells #[.int .u8 (z : Int)] 5)).drew.heap.size ≤ r2) (hrl : r2 < w1.heap.size) (K : Kp [r'] (W.alloc (.cells #[.int .u8 (z : Int)] 5)).drew w1) :
    SW (((w1.setCell ⟨g, 0, none⟩ (.slice (some ⟨r2, 0, none⟩) (L.length + 1) cap)).setCell ⟨g, 1, none⟩ (.int .i64 0)).setCell ⟨g, 2, none⟩ (.int .i64 0)) g r2 bs ∧
    Mv g r w r2 (((w1.setCell ⟨g, 0, none⟩ (.slice (some ⟨r2, 0, none⟩) (L.length + 1) cap)).setCell ⟨g, 1, none⟩ (.int .i64 0)).setCell ⟨g, 2, none⟩ (.int .i64 0)) := by
  have hlen : 8 * (bs.length / 8) = bs.length := by omega
  have hsz := (((Kp.refl [] W).alloc (.cells #[.int .u8 (z : Int)] 5)).drew).size
  have hlt := B.lt
  have hrg2 : r2 ≠ g := by omega
  have Kg : Kp [g] w1 (((w1.setCell ⟨g, 0, none⟩ (.slice (some ⟨r2, 0, none⟩) (L.length + 1) cap)).setCell ⟨g, 1, none⟩ (.int .i64 0)).setCell ⟨g, 2, none⟩ (.int .i64 0)) :=
    (((Kp.refl [g] w1).set (p := ⟨g, 0, none⟩) (.inl (by simp)) _).set (p := ⟨g, 1, none⟩) (.inl (by simp)) _).set (p := ⟨g, 2, none⟩) (.inl (by simp)) _
  have Bf := ((B4.set 0 (.slice (some ⟨r2, 0, none⟩) (L.length + 1) cap)).set 1 (.int .i64 0)).set 2 (.int .i64 0)
  refine ⟨⟨.slice (some ⟨r2, 0, none⟩) (L.length + 1) cap, ?_, ?_, .inl hrg2⟩, ?_⟩
  · rw [hlen, List.drop_length, hf.2]
    exact Bf
  · rw [hlen, List.take_length, ← hf.1]
    exact hby.kp Kg (by simpa using hrg2)
  · refine M.trans (mv_of hr0 ?_ ?_ (Nat.lt_of_lt_of_le hrl Kg.size))
    · exact ((((Kp.refl [g, r'] W).alloc (.cells #[.int .u8 (z : Int)] 5)).drew).then (K.mono (T := [g, r']) (fun x hx => .inl (by simp at hx ⊢; exact .inr hx)))).then (Kg.mono (T := [g, r']) (fun x hx => .inl (by simp at hx ⊢; exact .inl hx)))
    · rcases hr2 with e | e
      · exact .inl e
      · right; omega
set_option maxRecDepth 100000 in
set_option maxHeartbeats 1000000 in
theorem sput_calls (g r : Nat) (bs : List Bool) (num n : Nat) (w : World) (hw : SW w g r bs) (hn : n ≤ 16) (hb : bs.length ≤ 100000000) (hnum : num < 9223372036854775808) :
    Calls Tryz.prog 142 #[.pointer (some ⟨g, 0, none⟩), .int .i64 num, .int .i64 n] w fun e w' => ∃ r', e = .returned (.tuple #[]) ∧ SW w' g r' (bs ++ bitsOf num n) ∧ Mv g r w r' w' := by
  go_enter Tryz.func142, Tryz.ntmps142
  go_wp2_with fail
  go_loopw [1, 6] (fun y x wr => ∃ (k r' : Nat), x = .int .i64 k ∧ k ≤ n ∧ y = .int .i64 ((num / 2 ^ k : Nat) : Int) ∧ SW wr g r' (bs ++ bitsOf num k) ∧ Mv g r w r' wr) (fun _ x _ => n - (intOf x).toNat)
  case atStart => exact ⟨0, r, rfl, by omega, by simp, by simpa [bitsOf] using hw, Mv.refl _ _ _⟩
  case round =>
    obtain ⟨k, r', rfl, hk, rfl, hw', M⟩ := hrel
    by_cases hlt : k < n
    · have hl : (bs ++ bitsOf num k).length = bs.length + k := by rw [List.length_append, bits_length]
      have hsn : bs ++ bitsOf num (k + 1) = (bs ++ bitsOf num k) ++ [num / 2 ^ k % 2 == 1] := by rw [bits_snoc, List.append_assoc]
      have hnx : num / 2 ^ (k + 1) = num / 2 ^ k / 2 := by rw [Nat.pow_succ, Nat.div_div_eq_div_mul]
      have hle : num / 2 ^ k ≤ num := Nat.div_le_self _ _
      have HSN := Lib.hid hsn
      have HNX := Lib.hid hnx
      clear hsn hnx
      generalize bs ++ bitsOf num k = bk at *
      generalize num / 2 ^ k = nk at *
      obtain ⟨v, hblk, hby0, hor⟩ := hw'.out
      obtain ⟨r0, hby, hrg, hr0⟩ := pick hblk.lt hby0 hor
      have HOR := Lib.hid hor
      clear hor
      have hfull := sw_full (bs := bk) (b := nk % 2 == 1)
      have hpart := sw_part (bs := bk) (b := nk % 2 == 1)
      have hv : val (bk.drop (8 * (bk.length / 8))) < 2 ^ (bk.length % 8) := by
        have := val_lt (bk.drop (8 * (bk.length / 8)))
        rw [List.length_drop, show bk.length - 8 * (bk.length / 8) = bk.length % 8 from by omega] at this
        exact this
      rw [b1_mod] at hfull hpart
      have hp7 := pow_le (show bk.length % 8 ≤ 7 by omega)
      have hsz : (pack (bk.take (8 * (bk.length / 8)))).length ≤ 100000000 := by rw [pack_length, List.length_take]; omega
      generalize hval : val (bk.drop (8 * (bk.length / 8))) = last at *
      generalize hpk : pack (bk.take (8 * (bk.length / 8))) = L at *
      have f1 : nk % 2 < 2 := Nat.mod_lt _ (by omega)
      have f2 : Int.tmod (nk : Int) 2 = ((nk % 2 : Nat) : Int) := tmod_nat nk 2
      have f3 : Int.tdiv (nk : Int) 2 = ((nk / 2 : Nat) : Int) := tdiv_nat nk 2
      have c0 : wr.cell? ⟨g, 0, none⟩ = some v := (hblk.cell 0).trans rfl
      have c1 : wr.cell? ⟨g, 1, none⟩ = some (.int .i64 last) := (hblk.cell 1).trans rfl
      have c2 : wr.cell? ⟨g, 2, none⟩ = some (.int .i64 ((bk.length % 8 : Nat) : Int)) := (hblk.cell 2).trans rfl
      have fr : ∀ i, wr.frozen? ⟨g, i, none⟩ = false := hblk.frozen
      obtain ⟨P, hP⟩ : ∃ P, 2 ^ (bk.length % 8) = P := ⟨_, rfl⟩
      have hpow := pow_same (bk.length % 8) P (Lib.hid hP) (by omega)
      rw [hP] at hp7 hpart hv
      have HPP := Lib.hid hP
      clear hP
      have hq8 : bk.length % 8 < 8 := by omega
      generalize bk.length % 8 = q at *
      obtain ⟨bit, hbit⟩ : ∃ bit, (nk % 2 == 1) = bit := ⟨_, rfl⟩
      rw [hbit] at hfull hpart HSN
      clear hbit
      generalize nk % 2 = b at *
      have w1 : IntKind.i64.wrap ((b : Int) * (P : Int)) = ((P * b : Nat) : Int) := by
        rw [show (b : Int) * (P : Int) = ((P * b : Nat) : Int) from by rw [Int.natCast_mul, Int.mul_comm], IntKind.wrap_i64]
        have : P * b ≤ P * 1 := Nat.mul_le_mul_left _ (by omega)
        omega
      have hx : P * b ≤ 128 := by
        have : P * b ≤ P * 1 := Nat.mul_le_mul_left _ (by omega)
        omega
      have hx2 : last + P * b < 2 * P := by
        have : P * b ≤ P * 1 := Nat.mul_le_mul_left _ (by omega)
        omega
      have hq : q = 7 → P = 128 := fun e => by rw [e] at HPP; exact HPP.out.symm
      have w2 : IntKind.i64.wrap ((last : Int) + ((P * b : Nat) : Int)) = ((last + P * b : Nat) : Int) := by rw [IntKind.wrap_i64]; omega
      have hfull' : q = 7 → L ++ [last + P * b] = pack (bk ++ [bit]) ∧ (bk ++ [bit]).length % 8 = 0 := fun e => by rw [hq e]; exact hfull e
      have HQ := Lib.hid hq
      have HF := Lib.hid hfull'
      have HP := Lib.hid hpart
      have HPK := Lib.hid hpk
      clear hfull hfull' hpart hpk hl hw' hval hq
      generalize last + P * b = z at *
      generalize P * b = x at *
      go_wp2_with fail
      go_still_tail 14, (by kernel_rfl)
      still_call (hpow _)
      repeat still_step
      refine wpStill_nil ?_
      change wpList _ _ _ _ _ wr.drew
      have BD := hblk.drew
      have YD := hby.kp ((Kp.refl [] wr).drew) (by simp)
      have MD := M.trans (mv_kp (Kp.refl _ wr).drew)
      have hr0D : r0 = r' ∨ r0 = wr.drew.heap.size := hr0
      have YD0 := hby0.kp ((Kp.refl [] wr).drew) (by simp)
      clear hblk hby hby0 M hr0 c0 c1 c2 fr hpow
      generalize wr.drew = W at *
      have d0 : W.cell? ⟨g, 0, none⟩ = some v := (BD.cell 0).trans rfl
      have d1 : W.cell? ⟨g, 1, none⟩ = some (.int .i64 last) := (BD.cell 1).trans rfl
      have d2 : W.cell? ⟨g, 2, none⟩ = some (.int .i64 (q : Int)) := (BD.cell 2).trans rfl
      have dr : ∀ i, W.frozen? ⟨g, i, none⟩ = false := BD.frozen
      by_cases h7 : q = 7
      · have h8 : (q : Int) + 1 = 8 := by omega
        have hz : z < 256 := by have := HQ.out h7; omega
        have H7 := Lib.hid h7
        have H8 := Lib.hid h8
        clear h7
        have B2 := (BD.set 1 (.int .i64 (z : Int))).set 2 (.int .i64 8)
        have Y2 := YD.kp (((Kp.refl [g] W).set (p := ⟨g, 1, none⟩) (.inl (by simp)) (.int .i64 (z : Int))).set (p := ⟨g, 2, none⟩) (.inl (by simp)) (.int .i64 8)) (by simpa using hrg)
        have M3 := MD.trans (mv_kp (((Kp.refl [g, r'] W).set (p := ⟨g, 1, none⟩) (.inl (by simp)) (.int .i64 (z : Int))).set (p := ⟨g, 2, none⟩) (.inl (by simp)) (.int .i64 8)))
        have hr3 : r0 = r' ∨ r0 = ((W.setCell ⟨g, 1, none⟩ (.int .i64 (z : Int))).setCell ⟨g, 2, none⟩ (.int .i64 8)).heap.size := by simp [World.setCell]; exact hr0D
        go_wp2_with fail
        have x0 : (((W.setCell ⟨g, 1, none⟩ (.int .i64 (z : Int))).setCell ⟨g, 2, none⟩ (.int .i64 8))).cell? ⟨g, 0, none⟩ = some v := (B2.cell 0).trans rfl
        have x1 : (((W.setCell ⟨g, 1, none⟩ (.int .i64 (z : Int))).setCell ⟨g, 2, none⟩ (.int .i64 8))).cell? ⟨g, 1, none⟩ = some (.int .i64 (z : Int)) := (B2.cell 1).trans rfl
        clear BD YD MD d0 d1 d2 dr h8
        have HG : g ∉ [r0] := by simp; omega
        have HGH := Lib.hid HG
        clear HG
        generalize ((W.setCell ⟨g, 1, none⟩ (.int .i64 (z : Int))).setCell ⟨g, 2, none⟩ (.int .i64 8)) = W3 at *
        have w3 : IntKind.u8.wrap (z : Int) = (z : Int) := wr_u8 _ (by omega) (by omega)
        have z0 : ∀ o, (W3.alloc o).cell? ⟨g, 0, none⟩ = some v := fun o => ((B2.alloc o).cell 0).trans rfl
        have z1 : ∀ o, (W3.alloc o).cell? ⟨g, 1, none⟩ = some (.int .i64 (z : Int)) := fun o => ((B2.alloc o).cell 1).trans rfl
        go_region_law ((refine step_byte (x := z) (by rfl) _ _ (by rfl) (by rfl) (Y2.kp (((Kp.refl [] W3).alloc _).drew) (by simp)) (by rfl) (heap_alloc_new W3 _) hsz ?_; intro r2 cap w1 hby2 hr2 hrl2 K2 hc1 hc2; have B4 := K2.blk ((B2.alloc _).drew) HGH.out; have y0 : w1.cell? ⟨g, 0, none⟩ = some v := (B4.cell 0).trans rfl; have y1 : w1.cell? ⟨g, 1, none⟩ = some (.int .i64 (z : Int)) := (B4.cell 1).trans rfl; have y2 : w1.cell? ⟨g, 2, none⟩ = some (.int .i64 8) := (B4.cell 2).trans rfl; have yr : ∀ i, w1.frozen? ⟨g, i, none⟩ = false := B4.frozen))
        all_goals
          go_wp2_with fail
          have HC := sw_close M3 hr3 B2 hrg (HF.out H7.out) B4 hby2 hr2 hrl2 K2
          exact ⟨⟨k + 1, r2, by go_num, by omega, by rw [HNX.out]; simp, by rw [HSN.out]; exact HC.1, HC.2⟩, by simp [intOf]; omega⟩
      · have h8 : ((q : Int) + 1 == 8) = false := by simp; omega
        have H7 := Lib.hid h7
        clear h7
        go_wp2_with fail
        obtain ⟨p1, p2, p3⟩ := HP.out H7.out
        refine ⟨⟨k + 1, r', by go_num, by omega, by rw [HNX.out]; simp, ?_, ?_⟩, by simp [intOf]; omega⟩
        · rw [HSN.out]
          refine ⟨v, ?_, ?_, HOR.out⟩
          · rw [p2, p3]
            exact (BD.set 1 _).set 2 _
          · rw [p1, HPK.out]
            exact Bytes.kp2 YD0 HOR.out (((Kp.refl [g] W).set (p := ⟨g, 1, none⟩) (.inl (by simp)) _).set (p := ⟨g, 2, none⟩) (.inl (by simp)) _)
        · exact MD.trans (mv_kp (((Kp.refl [g, r'] W).set (p := ⟨g, 1, none⟩) (.inl (by simp)) _).set (p := ⟨g, 2, none⟩) (.inl (by simp)) _))
    · obtain rfl : k = n := by omega
      go_wp2_with fail
      go_end0
      exact ⟨r', rfl, hw', M⟩
set_option maxRecDepth 100000 in
theorem whole_calls (g r : Nat) (bs : List Bool) (w : World) (hw : SW w g r bs) (hb : bs.length ≤ 100000000) :
    Calls Tryz.prog 143 #[.pointer (some ⟨g, 0, none⟩)] w fun e w' => ∃ r', e = .returned (.tuple #[]) ∧ SW w' g r' (pad bs) ∧ Mv g r w r' w' := by
  obtain ⟨v, hblk, hby, hor⟩ := hw.out
  have c2 : w.cell? ⟨g, 2, none⟩ = some (.int .i64 ((bs.length % 8 : Nat) : Int)) := (hblk.cell 2).trans rfl
  by_cases h : bs.length % 8 = 0
  · have e : pad bs = bs := pad_of bs h
    have h' : ((bs.length % 8 : Nat) : Int) = 0 := by omega
    have E := Lib.hid e
    rw [h'] at c2
    clear e hblk hby h h'
    go_enter Tryz.func143, Tryz.ntmps143
    go_wp2_with fail
    go_end0
    exact ⟨r, rfl, by rw [E.out]; exact hw, Mv.refl _ _ _⟩
  · have e : pad bs = bs ++ bitsOf 0 (8 - bs.length % 8) := by rw [bits_zero]; unfold pad; congr 2; omega
    have h1 : (0 : Int) < ((bs.length % 8 : Nat) : Int) := by omega
    have h2 : (8 : Int) - ((bs.length % 8 : Nat) : Int) = ((8 - bs.length % 8 : Nat) : Int) := by omega
    have h3 : 8 - bs.length % 8 ≤ 16 := by omega
    have E := Lib.hid e
    have hput := sput_calls g r bs 0 (8 - bs.length % 8) w hw h3 hb (by omega)
    clear e hblk hby h
    rw [← E.out] at hput
    have h4 : ((bs.length % 8 : Nat) : Int) < 8 := by omega
    generalize 8 - bs.length % 8 = m at *
    generalize bs.length % 8 = q at *
    go_enter Tryz.func143, Tryz.ntmps143
    go_wp2_with fail
    refine hput.mono ?_
    rintro e w1 ⟨r', rfl, hw1, M⟩
    go_wp2_with fail
    go_end0
    exact ⟨r', rfl, hw1, M⟩
end Go.Proofs.YtnadjlejlohgiaaGreatDoor.Wi

/- A symbol's code as it is written, in both programs. Conditions: the code fits its length; sizes. -/
namespace Go.Proofs.YtnadjlejlohgiaaGreatDoor.Wi
open Go.RowKit Go.Proofs.YtnadjlejlohgiaaGreatDoor.Mem Go.Proofs.YtnadjlejlohgiaaGreatDoor.Bt Go.Proofs.YtnadjlejlohgiaaGreatDoor.Cd
set_option linter.unusedVariables false
set_option linter.unusedSimpArgs false
/-- A number of so many bits, turned. -/
def turn (num n : Nat) : Nat := val (bitsOf num n).reverse
theorem turn_succ (num n : Nat) : turn num (n + 1) = 2 * turn num n + num / 2 ^ n % 2 := by
  unfold turn
  rw [bits_snoc, List.reverse_append]
  simp only [List.reverse_cons, List.reverse_nil, List.nil_append, List.singleton_append, val, b1_mod]
  omega
theorem turn_bits (num n : Nat) : bitsOf (turn num n) n = (bitsOf num n).reverse := by
  have := bits_val (bitsOf num n).reverse
  rw [List.length_reverse, bits_length] at this
  exact this
theorem turn_lt (num n : Nat) : turn num n < 2 ^ n := by
  have := val_lt (bitsOf num n).reverse
  rw [List.length_reverse, bits_length] at this
  exact this
theorem turn_small {num n : Nat} (h : n ≤ 16) : turn num n < 65537 := by
  have := turn_lt num n
  have := pow_le h
  omega
set_option maxRecDepth 100000 in
theorem sturn_same (num n : Nat) (hn : n ≤ 16) (hnum : num < 9223372036854775808) (w : World) : Calls Tryz.prog 188 #[.int .i64 num, .int .i64 n] w (fun e w' => e = .returned (.int .i64 (turn num n : Nat)) ∧ w' = w) := by
  go_enter Tryz.func188, Tryz.ntmps188
  go_wp2_with fail
  go_loop [0, 5, 6] (fun y a x => ∃ (k nk T : Nat), k ≤ n ∧ x = .int .i64 (k : Int) ∧ RowKit.Hid (T = turn num k) ∧ RowKit.Hid (nk = num / 2 ^ k) ∧ nk ≤ num ∧ T < 65537 ∧ a = .int .i64 (T : Int) ∧ y = .int .i64 (nk : Int)) (fun _ _ x => n - (intOf x).toNat)
  case atStart => exact ⟨0, num, 0, by omega, rfl, Lib.hid rfl, Lib.hid (by simp), Nat.le_refl _, by omega, rfl, rfl⟩
  case round =>
    obtain ⟨k, nk, T, hk, rfl, hT, hnk, hle, hT2, rfl, rfl⟩ := hrel
    by_cases hlt : k < n
    · have f1 : nk % 2 < 2 := Nat.mod_lt _ (by omega)
      have f2 := turn_succ num k
      rw [← hT.out, ← hnk.out] at f2
      have F2 := Lib.hid f2
      have f4 : nk / 2 = num / 2 ^ (k + 1) := by rw [Nat.pow_succ, ← Nat.div_div_eq_div_mul, ← hnk.out]
      have F4 := Lib.hid f4
      have f5 := turn_small (num := num) (show k + 1 ≤ 16 by omega)
      rw [f2] at f5
      clear f2 f4
      go_wp2_with fail
      go_round
      case rel => exact ⟨k + 1, nk / 2, 2 * T + nk % 2, by omega, by go_num, Lib.hid F2.out.symm, F4, by omega, f5, by go_num, by go_num⟩
      case measure => simp [intOf]; omega
    · obtain rfl : k = n := by omega
      go_wp2_with fail
      go_ret
      exact ⟨ret_i (by rw [hT.out]), rfl⟩
theorem IW.kp {S : List Nat} {w w' : World} {g r : Nat} {bs : List Bool} (h : IW w g r bs) (k : Kp S w w') (hg : g ∉ S) (hr : r ∉ S) : IW w' g r bs := by
  obtain ⟨v, hb, hy, ho⟩ := h.out
  exact ⟨v, k.blk hb hg, hy.kp k hr, ho⟩
theorem IW.on {w w' : World} {g r : Nat} {bs : List Bool} (h : IW w g r bs) (O : On w w') : IW w' g r bs := h.kp (Kp.of [] O) (by simp) (by simp)
theorem SW.kp {S : List Nat} {w w' : World} {g r : Nat} {bs : List Bool} (h : SW w g r bs) (k : Kp S w w') (hg : g ∉ S) (hr : r ∉ S) : SW w' g r bs := by
  obtain ⟨v, hb, hy, ho⟩ := h.out
  exact ⟨v, k.blk hb hg, hy.kp k hr, ho⟩
theorem SW.on {w w' : World} {g r : Nat} {bs : List Bool} (h : SW w g r bs) (O : On w w') : SW w' g r bs := h.kp (Kp.of [] O) (by simp) (by simp)
theorem mv_on {w w' : World} (g r : Nat) (O : On w w') : Mv g r w r w' := mv_kp (Kp.of _ O)
set_option maxRecDepth 100000 in
theorem spiece_calls (lens : List Nat) (gl ol nl cl ga na ca s : Nat) (w : World)
    (hl : RowO w gl ol 3 (i64s lens)) (ha : RowO w ga 0 3 (i64s (codes lens))) (hnl : lens.length = nl) (hna : na = nl) (hs : s < lens.length) (h16 : lens.getD s 0 ≤ 15) (hc : code lens s < 2 ^ lens.getD s 0) :
    Calls Tryz.prog 182 #[.slice (some ⟨gl, ol, none⟩) nl cl, .slice (some ⟨ga, 0, none⟩) na ca, .int .i64 s] w fun e w' => e = .returned (.agg #[.int .i64 (turn (code lens s) (lens.getD s 0) : Nat), .int .i64 (lens.getD s 0 : Nat)]) ∧ On w w' := by
  subst hna
  have c0 : w.cell? ⟨ga, s, none⟩ = some (.int .i64 (code lens s : Nat)) := by
    have := ha.cell (i64s_get (show s < (codes lens).length by rw [codes_length]; exact hs))
    rw [codes_getD _ hs, Nat.zero_add] at this
    exact this
  have c1 : w.cell? ⟨gl, ol + s, none⟩ = some (.int .i64 (lens.getD s 0 : Nat)) := hl.cell (i64s_get hs)
  have hs1 : (s : Int) < na := by omega
  have hs0 : (0 : Int) ≤ s := by omega
  have hp := pow_le (show lens.getD s 0 ≤ 16 by omega)
  have ht := fun w => sturn_same (code lens s) (lens.getD s 0) (by omega) (by omega) w
  have HT := Lib.hid ht
  have B0 := World.block_lt_of_cell? w _ c0
  have B1 := World.block_lt_of_cell? w _ c1
  clear ht hl ha hnl hs h16 hc hp
  generalize turn (code lens s) (lens.getD s 0) = T at *
  generalize code lens s = c at *
  generalize lens.getD s 0 = l at *
  go_enter Tryz.func182, Tryz.ntmps182
  go_wp2_with fail
  have d0 : (w.alloc (.cells #[.int .i64 0, .int .i64 0] 142)).cell? ⟨ga, s, none⟩ = some (.int .i64 (c : Int)) := (((On.refl w).alloc _).cell B0).trans c0
  have d1 : (w.alloc (.cells #[.int .i64 0, .int .i64 0] 142)).cell? ⟨gl, ol + s, none⟩ = some (.int .i64 (l : Int)) := (((On.refl w).alloc _).cell B1).trans c1
  have BB := Blk.new w 142 #[.int .i64 0, .int .i64 0]
  have OO := (On.refl w).alloc (.cells #[.int .i64 0, .int .i64 0] 142)
  generalize hB : w.heap.size = B at *
  have HB := Lib.hid hB
  clear hB
  generalize w.alloc (.cells #[.int .i64 0, .int .i64 0] 142) = W at *
  go_still_tail 13, (by kernel_rfl)
  still_call (HT.out _)
  repeat still_step
  refine wpStill_nil ?_
  change wpList _ _ _ _ _ W.drew
  have BD := BB.drew
  have OD := OO.drew
  have hbs : w.heap.size ≤ B := by rw [HB.out]; exact Nat.le_refl _
  clear d0 d1 BB OO
  generalize W.drew = W2 at *
  have e0 : W2.cell? ⟨B, 0, none⟩ = some (.int .i64 0) := (BD.cell 0).trans rfl
  have e1 : W2.cell? ⟨B, 1, none⟩ = some (.int .i64 0) := (BD.cell 1).trans rfl
  have ef : ∀ i, W2.frozen? ⟨B, i, none⟩ = false := BD.frozen
  go_wp2_with fail
  have BF := (BD.set 0 (.int .i64 (T : Int))).set 1 (.int .i64 (l : Int))
  exact bodyPost_ret (v := .agg #[.int .i64 (T : Int), .int .i64 (l : Int)]) (by exact res_c (fn := Tryz.f182) (p := 6) rfl BF rfl Tryz.underlying142 rfl (by kernel_rfl)) rfl ⟨rfl, (OD.set hbs _).set hbs _⟩
set_option maxRecDepth 100000 in
theorem sym_calls (g r : Nat) (bs : List Bool) (lens : List Nat) (gl ol nl cl ga na ca s : Nat) (w : World) (hw : SW w g r bs) (hb : bs.length ≤ 90000000)
    (hl : RowO w gl ol 3 (i64s lens)) (ha : RowO w ga 0 3 (i64s (codes lens))) (hnl : lens.length = nl) (hna : na = nl) (hs : s < lens.length) (h16 : lens.getD s 0 ≤ 15) (hc : code lens s < 2 ^ lens.getD s 0) :
    Calls Tryz.prog 166 #[.pointer (some ⟨g, 0, none⟩), .slice (some ⟨gl, ol, none⟩) nl cl, .slice (some ⟨ga, 0, none⟩) na ca, .int .i64 s] w fun e w' => ∃ r', e = .returned (.tuple #[]) ∧ SW w' g r' (bs ++ enc lens s) ∧ Mv g r w r' w' := by
  subst hna
  have hp := fun r w hw => sput_calls g r bs (turn (code lens s) (lens.getD s 0)) (lens.getD s 0) w hw (by omega) (by omega) (by have := turn_small (num := code lens s) (show lens.getD s 0 ≤ 16 by omega); omega)
  have he : enc lens s = bitsOf (turn (code lens s) (lens.getD s 0)) (lens.getD s 0) := by rw [turn_bits]; rfl
  rw [← he] at hp
  have HP := Lib.hid hp
  have hpc := spiece_calls lens gl ol na cl ga na ca s w hl ha hnl rfl hs h16 hc
  have HPC := Lib.hid hpc
  clear hp he hl ha hnl hs h16 hc hpc
  generalize turn (code lens s) (lens.getD s 0) = T at *
  generalize lens.getD s 0 = l at *
  have HW := Lib.hid hw
  clear hw
  go_enter Tryz.func166, Tryz.ntmps166
  go_wp2_with fail
  refine HPC.out.mono ?_
  rintro e w1 ⟨rfl, O1⟩
  go_wp2_with fail
  refine (HP.out r _ (HW.out.on (O1.alloc _))).mono ?_
  rintro e w2 ⟨r2, rfl, hw2, M2⟩
  go_wp2_with fail
  go_end0
  exact ⟨r2, rfl, hw2, (mv_on g r (O1.alloc _)).trans M2⟩
end Go.Proofs.YtnadjlejlohgiaaGreatDoor.Wi

