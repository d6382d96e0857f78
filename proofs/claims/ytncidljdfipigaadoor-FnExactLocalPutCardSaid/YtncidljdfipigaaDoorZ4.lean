/- Own texts joined: Ws, Si, Nu, WCodes, Wn, Lo, Mp, Bk, Rs, WCode, WLad. -/
import Derived.Deep.RegionHeld3
import Derived.Deep.AppendLies
import Derived.Deep.RegionLaw
import Derived.OwnWalk
import Derived.Lib.Hide
import Derived.WalkKit
import Derived.WalkSpells
import Derived.Test.YtncidljdfipigaaDoorChecked
import Derived.Deep.DeepCutAuto
import Derived.Deep.QuietTactic
import Derived.BigQuiet
import Derived.DeepKeys4
import Derived.Maps.Keyed
import Derived.Maps.Own
import Derived.Carry
import Derived.Test.YtncidljdfipigaaDoorZ0
import Derived.Test.YtncidljdfipigaaDoorZ2
import Derived.Test.YtncidljdfipigaaDoorZ3
/- The reference's writer of bits: what put and whole do. Conditions: a writer, sizes. -/
namespace Go.Proofs.YtncidljdfipigaaDoor.Wi
open Go.RowKit Go.Proofs.YtncidljdfipigaaDoor.Mem Go.Proofs.YtncidljdfipigaaDoor.Bt
set_option linter.unusedVariables false
set_option linter.unusedSimpArgs false
/-- The reference's writer at block g, its bytes at block r: what bits it holds. -/
structure SW (w : World) (g r : Nat) (bs : List Bool) : Prop where mk :: (out : ∃ v, Blk w g 88 #[v, .int .i64 ((val (bs.drop (8 * (bs.length / 8))) : Nat) : Int), .int .i64 ((bs.length % 8 : Nat) : Int)] ∧ Bytes w r v (pack (bs.take (8 * (bs.length / 8)))) ∧ (r ≠ g ∨ v = .slice none 0 0))
theorem pow_le {n m : Nat} (h : n ≤ m) : (2 : Nat) ^ n ≤ 2 ^ m := Nat.pow_le_pow_right (by omega) h
theorem ret_i {k : IntKind} {a b : Int} (h : a = b) : Ending.returned (.int k a) = .returned (.int k b) := by rw [h]
set_option maxRecDepth 100000 in
theorem pow_same (n m : Nat) (hm : Hid (2 ^ n = m)) (hn : n ≤ 40) (w : World) : Calls Tryd.prog 119 #[.int .i64 n] w (fun e w' => e = .returned (.int .i64 m) ∧ w' = w) := by
  go_enter Tryd.func119, Tryd.ntmps119
  go_wp2_with fail
  go_loop [0, 3] (fun a b => ∃ k q x : Nat, q + k = n ∧ RowKit.Hid (x = 2 ^ k) ∧ x ≤ 1099511627776 ∧ a = .int .i64 (q : Int) ∧ b = .int .i64 (x : Int)) (fun a _ => (intOf a).toNat)
  case atStart => exact ⟨0, n, 1, by omega, Lib.hid rfl, by omega, rfl, rfl⟩
  case round =>
    obtain ⟨k, q, x, hk, hx, hx2, rfl, rfl⟩ := hrel
    have HK := Lib.hid hk
    have hq40 : q ≤ 40 := by omega
    clear hk
    by_cases hlt : 0 < q
    · have h2 := pow_le (show k + 1 ≤ 40 by have := HK.out; omega)
      have h3 : 2 ^ (k + 1) = 2 * x := by rw [Nat.pow_succ, hx.out]; omega
      have h4 : 2 * x ≤ 1099511627776 := by omega
      have H3 := Lib.hid h3
      clear h2 h3
      obtain ⟨q', rfl⟩ : ∃ q', q = q' + 1 := ⟨q - 1, by omega⟩
      go_wp2_with fail
      go_round
      case rel => exact ⟨k + 1, q', 2 * x, by have := HK.out; omega, Lib.hid H3.out.symm, h4, by go_num, by go_num⟩
      case measure => simp [intOf]
    · obtain rfl : q = 0 := by omega
      go_wp2_with fail
      go_ret
      exact ⟨ret_i (by have := HK.out; have := hm.out; rw [hx.out, ← hm.out]; congr 2; omega), rfl⟩
theorem sw_full {bs : List Bool} {b : Bool} (h : bs.length % 8 = 7) : pack (bs.take (8 * (bs.length / 8))) ++ [val (bs.drop (8 * (bs.length / 8))) + 2 ^ 7 * b1 b] = pack (bs ++ [b]) ∧ (bs ++ [b]).length % 8 = 0 := by
  constructor
  · have e : bs ++ [b] = bs.take (8 * (bs.length / 8)) ++ (bs.drop (8 * (bs.length / 8)) ++ [b]) := by rw [← List.append_assoc, List.take_append_drop]
    rw [e, pack_append _ _ (by rw [List.length_take]; omega)]
    congr 1
    have hl : (bs.drop (8 * (bs.length / 8)) ++ [b]).length = 8 := by rw [List.length_append, List.length_drop, List.length_singleton]; omega
    unfold pack
    rw [hl]
    show _ = [val ((bs.drop (8 * (bs.length / 8)) ++ [b]).take 8)]
    rw [List.take_of_length_le (by omega), val_append, List.length_drop, show bs.length - 8 * (bs.length / 8) = 7 from by omega]
    simp [val]
  · rw [List.length_append, List.length_singleton]; omega
theorem sw_part {bs : List Bool} {b : Bool} (h : bs.length % 8 ≠ 7) : (bs ++ [b]).take (8 * ((bs ++ [b]).length / 8)) = bs.take (8 * (bs.length / 8)) ∧ val ((bs ++ [b]).drop (8 * ((bs ++ [b]).length / 8))) = val (bs.drop (8 * (bs.length / 8))) + 2 ^ (bs.length % 8) * b1 b ∧ (bs ++ [b]).length % 8 = bs.length % 8 + 1 := by
  have e : (bs ++ [b]).length / 8 = bs.length / 8 := by rw [List.length_append, List.length_singleton]; omega
  rw [e]
  refine ⟨?_, ?_, by rw [List.length_append, List.length_singleton]; omega⟩
  · rw [List.take_append, show 8 * (bs.length / 8) - bs.length = 0 from by omega, List.take_zero, List.append_nil]
  · rw [List.drop_append, show 8 * (bs.length / 8) - bs.length = 0 from by omega, List.drop_zero, val_append, List.length_drop, show bs.length - 8 * (bs.length / 8) = bs.length % 8 from by omega]
    simp [val]
theorem sw_close {w w1 W : World} {g r r1 r' r2 cap z : Nat} {L : List Nat} {bs : List Bool} {v : Value} {cs : Array Value} (M : Mv g r w r1 W) (hr0 : r' = r1 ∨ r' = W.heap.size) (B : Blk W g 88 cs) (hrg : r' ≠ g)
    (hf : L ++ [z] = pack bs ∧ bs.length % 8 = 0) (B4 : Blk w1 g 88 #[v, .int .i64 (z : Int), .int .i64 8]) (hby : Bytes w1 r2 (.slice (some ⟨r2, 0, none⟩) (L.length + 1) cap) (L ++ [z]))
    (hr2 : r2 = r' ∨ (W.alloc (.cells #[.int .u8 (z : Int)] 5)).drew.heap.size ≤ r2) (hrl : r2 < w1.heap.size) (K : Kp [r'] (W.alloc (.cells #[.int .u8 (z : Int)] 5)).drew w1) :
    SW (((w1.setCell ⟨g, 0, none⟩ (.slice (some ⟨r2, 0, none⟩) (L.length + 1) cap)).setCell ⟨g, 1, none⟩ (.int .i64 0)).setCell ⟨g, 2, none⟩ (.int .i64 0)) g r2 bs ∧
    Mv g r w r2 (((w1.setCell ⟨g, 0, none⟩ (.slice (some ⟨r2, 0, none⟩) (L.length + 1) cap)).setCell ⟨g, 1, none⟩ (.int .i64 0)).setCell ⟨g, 2, none⟩ (.int .i64 0)) := by
  have hlen : 8 * (bs.length / 8) = bs.length := by omega
  have hsz := (((Kp.refl [] W).alloc (.cells #[.int .u8 (z : Int)] 5)).drew).size
  have hlt := B.lt
  have hrg2 : r2 ≠ g := by omega
  have Kg : Kp [g] w1 (((w1.setCell ⟨g, 0, none⟩ (.slice (some ⟨r2, 0, none⟩) (L.length + 1) cap)).setCell ⟨g, 1, none⟩ (.int .i64 0)).setCell ⟨g, 2, none⟩ (.int .i64 0)) :=
    (((Kp.refl [g] w1).set (p := ⟨g, 0, none⟩) (.inl (by simp)) _).set (p := ⟨g, 1, none⟩) (.inl (by simp)) _).set (p := ⟨g, 2, none⟩) (.inl (by simp)) _
  have Bf := ((B4.set 0 (.slice (some ⟨r2, 0, none⟩) (L.length + 1) cap)).set 1 (.int .i64 0)).set 2 (.int .i64 0)
  refine ⟨⟨.slice (some ⟨r2, 0, none⟩) (L.length + 1) cap, ?_, ?_, .inl hrg2⟩, ?_⟩
  · rw [hlen, List.drop_length, hf.2]
    exact Bf
  · rw [hlen, List.take_length, ← hf.1]
    exact hby.kp Kg (by simpa using hrg2)
  · refine M.trans (mv_of hr0 ?_ ?_ (Nat.lt_of_lt_of_le hrl Kg.size))
    · exact ((((Kp.refl [g, r'] W).alloc (.cells #[.int .u8 (z : Int)] 5)).drew).then (K.mono (T := [g, r']) (fun x hx => .inl (by simp at hx ⊢; exact .inr hx)))).then (Kg.mono (T := [g, r']) (fun x hx => .inl (by simp at hx ⊢; exact .inl hx)))
    · rcases hr2 with e | e
      · exact .inl e
      · right; omega
set_option maxRecDepth 100000 in
set_option maxHeartbeats 1000000 in
theorem sput_calls (g r : Nat) (bs : List Bool) (num n : Nat) (w : World) (hw : SW w g r bs) (hn : n ≤ 16) (hb : bs.length ≤ 100000000) (hnum : num < 9223372036854775808) :
    Calls Tryd.prog 84 #[.pointer (some ⟨g, 0, none⟩), .int .i64 num, .int .i64 n] w fun e w' => ∃ r', e = .returned (.tuple #[]) ∧ SW w' g r' (bs ++ bitsOf num n) ∧ Mv g r w r' w' := by
  go_enter Tryd.func84, Tryd.ntmps84
  go_wp2_with fail
  go_loopw [1, 6] (fun y x wr => ∃ (k r' : Nat), x = .int .i64 k ∧ k ≤ n ∧ y = .int .i64 ((num / 2 ^ k : Nat) : Int) ∧ SW wr g r' (bs ++ bitsOf num k) ∧ Mv g r w r' wr) (fun _ x _ => n - (intOf x).toNat)
  case atStart => exact ⟨0, r, rfl, by omega, by simp, by simpa [bitsOf] using hw, Mv.refl _ _ _⟩
  case round =>
    obtain ⟨k, r', rfl, hk, rfl, hw', M⟩ := hrel
    by_cases hlt : k < n
    · have hl : (bs ++ bitsOf num k).length = bs.length + k := by rw [List.length_append, bits_length]
      have hsn : bs ++ bitsOf num (k + 1) = (bs ++ bitsOf num k) ++ [num / 2 ^ k % 2 == 1] := by rw [bits_snoc, List.append_assoc]
      have hnx : num / 2 ^ (k + 1) = num / 2 ^ k / 2 := by rw [Nat.pow_succ, Nat.div_div_eq_div_mul]
      have hle : num / 2 ^ k ≤ num := Nat.div_le_self _ _
      have HSN := Lib.hid hsn
      have HNX := Lib.hid hnx
      clear hsn hnx
      generalize bs ++ bitsOf num k = bk at *
      generalize num / 2 ^ k = nk at *
      obtain ⟨v, hblk, hby0, hor⟩ := hw'.out
      obtain ⟨r0, hby, hrg, hr0⟩ := pick hblk.lt hby0 hor
      have HOR := Lib.hid hor
      clear hor
      have hfull := sw_full (bs := bk) (b := nk % 2 == 1)
      have hpart := sw_part (bs := bk) (b := nk % 2 == 1)
      have hv : val (bk.drop (8 * (bk.length / 8))) < 2 ^ (bk.length % 8) := by
        have := val_lt (bk.drop (8 * (bk.length / 8)))
        rw [List.length_drop, show bk.length - 8 * (bk.length / 8) = bk.length % 8 from by omega] at this
        exact this
      rw [b1_mod] at hfull hpart
      have hp7 := pow_le (show bk.length % 8 ≤ 7 by omega)
      have hsz : (pack (bk.take (8 * (bk.length / 8)))).length ≤ 100000000 := by rw [pack_length, List.length_take]; omega
      generalize hval : val (bk.drop (8 * (bk.length / 8))) = last at *
      generalize hpk : pack (bk.take (8 * (bk.length / 8))) = L at *
      have f1 : nk % 2 < 2 := Nat.mod_lt _ (by omega)
      have f2 : Int.tmod (nk : Int) 2 = ((nk % 2 : Nat) : Int) := tmod_nat nk 2
      have f3 : Int.tdiv (nk : Int) 2 = ((nk / 2 : Nat) : Int) := tdiv_nat nk 2
      have c0 : wr.cell? ⟨g, 0, none⟩ = some v := (hblk.cell 0).trans rfl
      have c1 : wr.cell? ⟨g, 1, none⟩ = some (.int .i64 last) := (hblk.cell 1).trans rfl
      have c2 : wr.cell? ⟨g, 2, none⟩ = some (.int .i64 ((bk.length % 8 : Nat) : Int)) := (hblk.cell 2).trans rfl
      have fr : ∀ i, wr.frozen? ⟨g, i, none⟩ = false := hblk.frozen
      obtain ⟨P, hP⟩ : ∃ P, 2 ^ (bk.length % 8) = P := ⟨_, rfl⟩
      have hpow := pow_same (bk.length % 8) P (Lib.hid hP) (by omega)
      rw [hP] at hp7 hpart hv
      have HPP := Lib.hid hP
      clear hP
      have hq8 : bk.length % 8 < 8 := by omega
      generalize bk.length % 8 = q at *
      obtain ⟨bit, hbit⟩ : ∃ bit, (nk % 2 == 1) = bit := ⟨_, rfl⟩
      rw [hbit] at hfull hpart HSN
      clear hbit
      generalize nk % 2 = b at *
      have w1 : IntKind.i64.wrap ((b : Int) * (P : Int)) = ((P * b : Nat) : Int) := by
        rw [show (b : Int) * (P : Int) = ((P * b : Nat) : Int) from by rw [Int.natCast_mul, Int.mul_comm], IntKind.wrap_i64]
        have : P * b ≤ P * 1 := Nat.mul_le_mul_left _ (by omega)
        omega
      have hx : P * b ≤ 128 := by
        have : P * b ≤ P * 1 := Nat.mul_le_mul_left _ (by omega)
        omega
      have hx2 : last + P * b < 2 * P := by
        have : P * b ≤ P * 1 := Nat.mul_le_mul_left _ (by omega)
        omega
      have hq : q = 7 → P = 128 := fun e => by rw [e] at HPP; exact HPP.out.symm
      have w2 : IntKind.i64.wrap ((last : Int) + ((P * b : Nat) : Int)) = ((last + P * b : Nat) : Int) := by rw [IntKind.wrap_i64]; omega
      have hfull' : q = 7 → L ++ [last + P * b] = pack (bk ++ [bit]) ∧ (bk ++ [bit]).length % 8 = 0 := fun e => by rw [hq e]; exact hfull e
      have HQ := Lib.hid hq
      have HF := Lib.hid hfull'
      have HP := Lib.hid hpart
      have HPK := Lib.hid hpk
      clear hfull hfull' hpart hpk hl hw' hval hq
      generalize last + P * b = z at *
      generalize P * b = x at *
      go_wp2_with fail
      go_still_tail 14, (by kernel_rfl)
      still_call (hpow _)
      repeat still_step
      refine wpStill_nil ?_
      change wpList _ _ _ _ _ wr.drew
      have BD := hblk.drew
      have YD := hby.kp ((Kp.refl [] wr).drew) (by simp)
      have MD := M.trans (mv_kp (Kp.refl _ wr).drew)
      have hr0D : r0 = r' ∨ r0 = wr.drew.heap.size := hr0
      have YD0 := hby0.kp ((Kp.refl [] wr).drew) (by simp)
      clear hblk hby hby0 M hr0 c0 c1 c2 fr hpow
      generalize wr.drew = W at *
      have d0 : W.cell? ⟨g, 0, none⟩ = some v := (BD.cell 0).trans rfl
      have d1 : W.cell? ⟨g, 1, none⟩ = some (.int .i64 last) := (BD.cell 1).trans rfl
      have d2 : W.cell? ⟨g, 2, none⟩ = some (.int .i64 (q : Int)) := (BD.cell 2).trans rfl
      have dr : ∀ i, W.frozen? ⟨g, i, none⟩ = false := BD.frozen
      by_cases h7 : q = 7
      · have h8 : (q : Int) + 1 = 8 := by omega
        have hz : z < 256 := by have := HQ.out h7; omega
        have H7 := Lib.hid h7
        have H8 := Lib.hid h8
        clear h7
        have B2 := (BD.set 1 (.int .i64 (z : Int))).set 2 (.int .i64 8)
        have Y2 := YD.kp (((Kp.refl [g] W).set (p := ⟨g, 1, none⟩) (.inl (by simp)) (.int .i64 (z : Int))).set (p := ⟨g, 2, none⟩) (.inl (by simp)) (.int .i64 8)) (by simpa using hrg)
        have M3 := MD.trans (mv_kp (((Kp.refl [g, r'] W).set (p := ⟨g, 1, none⟩) (.inl (by simp)) (.int .i64 (z : Int))).set (p := ⟨g, 2, none⟩) (.inl (by simp)) (.int .i64 8)))
        have hr3 : r0 = r' ∨ r0 = ((W.setCell ⟨g, 1, none⟩ (.int .i64 (z : Int))).setCell ⟨g, 2, none⟩ (.int .i64 8)).heap.size := by simp [World.setCell]; exact hr0D
        go_wp2_with fail
        have x0 : (((W.setCell ⟨g, 1, none⟩ (.int .i64 (z : Int))).setCell ⟨g, 2, none⟩ (.int .i64 8))).cell? ⟨g, 0, none⟩ = some v := (B2.cell 0).trans rfl
        have x1 : (((W.setCell ⟨g, 1, none⟩ (.int .i64 (z : Int))).setCell ⟨g, 2, none⟩ (.int .i64 8))).cell? ⟨g, 1, none⟩ = some (.int .i64 (z : Int)) := (B2.cell 1).trans rfl
        clear BD YD MD d0 d1 d2 dr h8
        have HG : g ∉ [r0] := by simp; omega
        have HGH := Lib.hid HG
        clear HG
        generalize ((W.setCell ⟨g, 1, none⟩ (.int .i64 (z : Int))).setCell ⟨g, 2, none⟩ (.int .i64 8)) = W3 at *
        have w3 : IntKind.u8.wrap (z : Int) = (z : Int) := wr_u8 _ (by omega) (by omega)
        have z0 : ∀ o, (W3.alloc o).cell? ⟨g, 0, none⟩ = some v := fun o => ((B2.alloc o).cell 0).trans rfl
        have z1 : ∀ o, (W3.alloc o).cell? ⟨g, 1, none⟩ = some (.int .i64 (z : Int)) := fun o => ((B2.alloc o).cell 1).trans rfl
        go_region_law ((refine step_byte (x := z) (by rfl) _ _ (by rfl) (by rfl) (Y2.kp (((Kp.refl [] W3).alloc _).drew) (by simp)) (by rfl) (heap_alloc_new W3 _) hsz ?_; intro r2 cap w1 hby2 hr2 hrl2 K2 hc1 hc2; have B4 := K2.blk ((B2.alloc _).drew) HGH.out; have y0 : w1.cell? ⟨g, 0, none⟩ = some v := (B4.cell 0).trans rfl; have y1 : w1.cell? ⟨g, 1, none⟩ = some (.int .i64 (z : Int)) := (B4.cell 1).trans rfl; have y2 : w1.cell? ⟨g, 2, none⟩ = some (.int .i64 8) := (B4.cell 2).trans rfl; have yr : ∀ i, w1.frozen? ⟨g, i, none⟩ = false := B4.frozen))
        all_goals
          go_wp2_with fail
          have HC := sw_close M3 hr3 B2 hrg (HF.out H7.out) B4 hby2 hr2 hrl2 K2
          exact ⟨⟨k + 1, r2, by go_num, by omega, by rw [HNX.out]; simp, by rw [HSN.out]; exact HC.1, HC.2⟩, by simp [intOf]; omega⟩
      · have h8 : ((q : Int) + 1 == 8) = false := by simp; omega
        have H7 := Lib.hid h7
        clear h7
        go_wp2_with fail
        obtain ⟨p1, p2, p3⟩ := HP.out H7.out
        refine ⟨⟨k + 1, r', by go_num, by omega, by rw [HNX.out]; simp, ?_, ?_⟩, by simp [intOf]; omega⟩
        · rw [HSN.out]
          refine ⟨v, ?_, ?_, HOR.out⟩
          · rw [p2, p3]
            exact (BD.set 1 _).set 2 _
          · rw [p1, HPK.out]
            exact Bytes.kp2 YD0 HOR.out (((Kp.refl [g] W).set (p := ⟨g, 1, none⟩) (.inl (by simp)) _).set (p := ⟨g, 2, none⟩) (.inl (by simp)) _)
        · exact MD.trans (mv_kp (((Kp.refl [g, r'] W).set (p := ⟨g, 1, none⟩) (.inl (by simp)) _).set (p := ⟨g, 2, none⟩) (.inl (by simp)) _))
    · obtain rfl : k = n := by omega
      go_wp2_with fail
      go_end0
      exact ⟨r', rfl, hw', M⟩
set_option maxRecDepth 100000 in
theorem whole_calls (g r : Nat) (bs : List Bool) (w : World) (hw : SW w g r bs) (hb : bs.length ≤ 100000000) :
    Calls Tryd.prog 85 #[.pointer (some ⟨g, 0, none⟩)] w fun e w' => ∃ r', e = .returned (.tuple #[]) ∧ SW w' g r' (pad bs) ∧ Mv g r w r' w' := by
  obtain ⟨v, hblk, hby, hor⟩ := hw.out
  have c2 : w.cell? ⟨g, 2, none⟩ = some (.int .i64 ((bs.length % 8 : Nat) : Int)) := (hblk.cell 2).trans rfl
  by_cases h : bs.length % 8 = 0
  · have e : pad bs = bs := pad_of bs h
    have h' : ((bs.length % 8 : Nat) : Int) = 0 := by omega
    have E := Lib.hid e
    rw [h'] at c2
    clear e hblk hby h h'
    go_enter Tryd.func85, Tryd.ntmps85
    go_wp2_with fail
    go_end0
    exact ⟨r, rfl, by rw [E.out]; exact hw, Mv.refl _ _ _⟩
  · have e : pad bs = bs ++ bitsOf 0 (8 - bs.length % 8) := by rw [bits_zero]; unfold pad; congr 2; omega
    have h1 : (0 : Int) < ((bs.length % 8 : Nat) : Int) := by omega
    have h2 : (8 : Int) - ((bs.length % 8 : Nat) : Int) = ((8 - bs.length % 8 : Nat) : Int) := by omega
    have h3 : 8 - bs.length % 8 ≤ 16 := by omega
    have E := Lib.hid e
    have hput := sput_calls g r bs 0 (8 - bs.length % 8) w hw h3 hb (by omega)
    clear e hblk hby h
    rw [← E.out] at hput
    have h4 : ((bs.length % 8 : Nat) : Int) < 8 := by omega
    generalize 8 - bs.length % 8 = m at *
    generalize bs.length % 8 = q at *
    go_enter Tryd.func85, Tryd.ntmps85
    go_wp2_with fail
    refine hput.mono ?_
    rintro e w1 ⟨r', rfl, hw1, M⟩
    go_wp2_with fail
    go_end0
    exact ⟨r', rfl, hw1, M⟩
end Go.Proofs.YtncidljdfipigaaDoor.Wi

/- The specification's reader of bits: what bit, num and whole do. Conditions: a reader of a text. -/
namespace Go.Proofs.YtncidljdfipigaaDoor.Wi
open Go.RowKit Go.Proofs.YtncidljdfipigaaDoor.Mem Go.Proofs.YtncidljdfipigaaDoor.Bt
set_option linter.unusedVariables false
set_option linter.unusedSimpArgs false
/-- The specification's reader at block g: the text, where it is, whether it is bad. -/
structure SR (w : World) (g : Nat) (s : ByteArray) (p : Nat) (bad : Bool) : Prop where mk ::
  out : Blk w g 103 #[.string s, .int .i64 (p : Int), .bool bad]
  le : p ≤ 8 * s.size
  sz : s.size ≤ 1000000
theorem SR.kp {w w' : World} {g p : Nat} {s : ByteArray} {b : Bool} {S : List Nat} (h : SR w g s p b) (k : Kp S w w') (hg : g ∉ S) : SR w' g s p b := ⟨k.blk h.out hg, h.le, h.sz⟩
theorem SR.on {w w' : World} {g p : Nat} {s : ByteArray} {b : Bool} (h : SR w g s p b) (O : On w w') : SR w' g s p b := h.kp (Kp.of [] O) (by simp)
set_option maxRecDepth 100000 in
theorem sbit_calls (g : Nat) (s : ByteArray) (p : Nat) (b : Bool) (w : World) (hw : SR w g s p b) :
    Calls Tryd.prog 133 #[.pointer (some ⟨g, 0, none⟩)] w fun e w' => e = .returned (.int .i64 (numAt s p 1 : Nat)) ∧ SR w' g s (min (p + 1) (8 * s.size)) (b || decide (8 * s.size < p + 1)) ∧ Kp [g] w w' := by
  obtain ⟨hb, hle, hsz⟩ := hw
  have c0 : w.cell? ⟨g, 0, none⟩ = some (.string s) := (hb.cell 0).trans rfl
  have c1 : w.cell? ⟨g, 1, none⟩ = some (.int .i64 p) := (hb.cell 1).trans rfl
  have c2 : w.cell? ⟨g, 2, none⟩ = some (.bool b) := (hb.cell 2).trans rfl
  have fr : ∀ i, w.frozen? ⟨g, i, none⟩ = false := hb.frozen
  have e0 : IntKind.i64.wrap (8 * (s.size : Int)) = 8 * (s.size : Int) := by rw [IntKind.wrap_i64]; omega
  by_cases h : p < 8 * s.size
  · have hi : (p : Int) < 8 * s.size := by omega
    have hi2 : decide (8 * (s.size : Int) ≤ (p : Int)) = false := by simp; omega
    obtain ⟨q, k, hq, hpq, hpk, hv⟩ : ∃ q k, ∃ hq : q < s.size, p / 8 = q ∧ p % 8 = k ∧ numAt s p 1 = s[q].toNat / 2 ^ k % 2 := ⟨p / 8, p % 8, by omega, rfl, rfl, numAt_one h⟩
    have e1 : IntKind.i64.wrap ((p : Int) / 8) = (q : Int) := by rw [IntKind.wrap_i64]; omega
    have e2 : Int.tmod (p : Int) 8 = (k : Int) := by rw [show (8 : Int) = ((8 : Nat) : Int) from rfl, tmod_nat, hpk]
    have e3 : Int.tdiv (p : Int) 8 = (q : Int) := by rw [show (8 : Int) = ((8 : Nat) : Int) from rfl, tdiv_nat, hpq]
    have hq2 : (q : Int) < s.size := by omega
    have hk2 : k < 8 := by omega
    have HV := Lib.hid hv
    clear hv hpq hpk
    obtain ⟨m, hm⟩ : ∃ m, 2 ^ k = m := ⟨_, rfl⟩
    have HM := Lib.hid hm
    have hm1 : 1 ≤ m := by rw [← hm]; exact Nat.one_le_two_pow
    clear hm
    have hm2 : ((m : Int) == 0) = false := by simp; omega
    have hm0 : (m : Int) ≠ 0 := by omega
    have hx : s[q].toNat < 256 := s[q].toNat_lt
    obtain ⟨y, hy⟩ : ∃ y, s[q].toNat / m = y := ⟨_, rfl⟩
    have hd : y < 256 := by rw [← hy]; exact Nat.lt_of_le_of_lt (Nat.div_le_self _ _) hx
    have e6 : Int.tdiv (s[q].toNat : Int) (m : Int) = (y : Int) := by rw [tdiv_nat, hy]
    have e7 : Int.tmod (y : Int) 2 = ((y % 2 : Nat) : Int) := tmod_nat _ 2
    have e8 : wrap64 (s[q].toNat : Int) = (s[q].toNat : Int) := by unfold wrap64; omega
    have e9 : IntKind.i64.wrap (y : Int) = (y : Int) := by rw [IntKind.wrap_i64]; omega
    have HY := Lib.hid hy
    clear hy hx
    go_enter Tryd.func133, Tryd.ntmps133
    go_wp2_with fail
    go_quiet (fail)
    go_wp2_with fail
    go_quiet (first
      | (go_at_call 119; exact (pow_same k m HM (by omega) _).mono fun _ _ h => ⟨h.1, _, h.2⟩))
    go_wp2_with fail
    go_ret
    refine ⟨?_, ⟨?_, Nat.min_le_right _ _, hsz⟩, ?_⟩
    · show Ending.returned (.int .i64 ((y : Int) % 2)) = _
      rw [HV.out, HM.out, HY.out, show ((y : Int) % 2) = ((y % 2 : Nat) : Int) from by omega]
    · rw [Nat.min_eq_left (by omega), show decide (8 * s.size < p + 1) = false from by simp; omega, Bool.or_false]
      exact ((hb.drewN _).set 1 (.int .i64 ((p : Int) + 1)))
    · exact ((Kp.refl [g] w).drewN _).set (.inl (by simp)) _
  · have hi : 8 * (s.size : Int) ≤ p := by omega
    go_enter Tryd.func133, Tryd.ntmps133
    go_wp2_with fail
    go_quiet (fail)
    go_wp2_with fail
    go_ret
    refine ⟨by rw [numAt_end (by omega)]; rfl, ⟨?_, Nat.min_le_right _ _, hsz⟩, ?_⟩
    · rw [show min (p + 1) (8 * s.size) = p from by omega, show decide (8 * s.size < p + 1) = true from by simp; omega, Bool.or_true]
      exact ((hb.drewN _).set 2 (.bool true))
    · exact ((Kp.refl [g] w).drewN _).set (.inl (by simp)) _
set_option maxRecDepth 100000 in
theorem snum_calls (g n : Nat) (s : ByteArray) (p : Nat) (b : Bool) (w : World) (hw : SR w g s p b) (hn : n ≤ 16) :
    Calls Tryd.prog 134 #[.pointer (some ⟨g, 0, none⟩), .int .i64 (n : Int)] w fun e w' => e = .returned (.int .i64 (numAt s p n : Nat)) ∧ SR w' g s (min (p + n) (8 * s.size)) (b || decide (8 * s.size < p + n)) ∧ Kp [g] w w' := by
  go_enter Tryd.func134, Tryd.ntmps134
  go_wp2_with fail
  go_loopw [5, 6] (fun y x wr => ∃ (k : Nat), x = .int .i64 k ∧ k ≤ n ∧ y = .int .i64 (numAt s p k : Nat) ∧ SR wr g s (min (p + k) (8 * s.size)) (b || decide (8 * s.size < p + k)) ∧ Kp [g] w wr) (fun _ x _ => n - (intOf x).toNat)
  case atStart =>
    have hle := hw.le
    refine ⟨0, rfl, by omega, by simp [numAt, val], ?_, Kp.refl _ _⟩
    rw [Nat.add_zero, Nat.min_eq_left hle, show decide (8 * s.size < p) = false from by simp; omega, Bool.or_false]
    exact hw
  case round =>
    obtain ⟨k, rfl, hk, rfl, hr, K⟩ := hrel
    by_cases hlt : k < n
    · have hc := sbit_calls g s _ _ wr hr
      rw [numAt_min] at hc
      have hx := numAt_lt s (p + k) 1
      have hy := numAt_lt s p k
      have hs := numAt_succ s p k
      have hk3 : (k : Int) < n := by omega
      have HS := Lib.hid hs
      have HC := Lib.hid hc
      clear hs hc
      have hp16 : 2 ^ k ≤ 2 ^ 16 := Nat.pow_le_pow_right (by omega) (by omega)
      obtain ⟨m, hm⟩ : ∃ m, 2 ^ k = m := ⟨_, rfl⟩
      rw [hm] at hy hp16 HS
      have HM := Lib.hid hm
      clear hm
      generalize numAt s (p + k) 1 = x at *
      generalize numAt s p k = y at *
      have hmx : m * x ≤ m * 1 := Nat.mul_le_mul_left _ (by omega)
      have e1 : IntKind.i64.wrap ((x : Int) * (m : Int)) = ((m * x : Nat) : Int) := by rw [← Int.natCast_mul, Nat.mul_comm, IntKind.wrap_i64]; omega
      have e2 : IntKind.i64.wrap ((y : Int) + ((m * x : Nat) : Int)) = ((y + m * x : Nat) : Int) := by rw [IntKind.wrap_i64]; omega
      generalize m * x = z at *
      go_wp2_with fail
      refine HC.out.mono ?_
      rintro e w2 ⟨rfl, hr2, K2⟩
      go_wp2_with fail
      refine (pow_same k m HM (by omega) w2).mono ?_
      rintro e w3 ⟨rfl, rfl⟩
      go_wp2_with fail
      go_roundw
      case rel =>
        refine ⟨k + 1, by go_num, by omega, by rw [HS.out]; rfl, ?_, K.then K2⟩
        have e1 : min (min (p + k) (8 * s.size) + 1) (8 * s.size) = min (p + (k + 1)) (8 * s.size) := by omega
        have e2 : ((b || decide (8 * s.size < p + k)) || decide (8 * s.size < min (p + k) (8 * s.size) + 1)) = (b || decide (8 * s.size < p + (k + 1))) := by
          rw [Bool.or_assoc]; congr 1
          rw [Bool.eq_iff_iff]; simp; omega
        rw [e1, e2] at hr2
        exact hr2
      case measure => simp [intOf]; omega
    · obtain rfl : k = n := by omega
      go_wp2_with fail
      go_ret
      exact ⟨rfl, hr, K⟩
set_option maxRecDepth 100000 in
theorem swhole_calls (g : Nat) (s : ByteArray) (p : Nat) (b : Bool) (w : World) (hw : SR w g s p b) :
    Calls Tryd.prog 101 #[.pointer (some ⟨g, 0, none⟩)] w fun e w' => e = .returned (.bool (padOk s p)) ∧ SR w' g s (evenAt p) b ∧ Kp [g] w w' := by
  go_enter Tryd.func101, Tryd.ntmps101
  have hle := hw.le
  go_wp2_with fail
  go_loopw [3] (fun x wr => ∃ (q n : Nat), x = .int .i64 (n : Int) ∧ n ≤ q - p ∧ p ≤ q ∧ q ≤ evenAt p ∧ (n = 0 ↔ ((rest s p).take (q - p)).all (!·) = true) ∧ SR wr g s q b ∧ Kp [g] w wr) (fun _ wr => match wr.cell? ⟨g, 1, none⟩ with | some x => 8 * s.size - (intOf x).toNat | none => 0)
  case atStart =>
    refine ⟨p, 0, rfl, by omega, Nat.le_refl _, by unfold evenAt; omega, by simp, hw, Kp.refl _ _⟩
  case round =>
    obtain ⟨q, n, rfl, hnq, hpq, hq, hiff, hr, K⟩ := hrel
    have B := hr.out
    have hql := hr.le
    have c1 : wr.cell? ⟨g, 1, none⟩ = some (.int .i64 q) := (B.cell 1).trans rfl
    have e2 : Int.tmod (q : Int) 8 = ((q % 8 : Nat) : Int) := tmod_nat q 8
    have HI := Lib.hid hiff
    clear hiff
    have hn8 : n ≤ 8 := by unfold evenAt at hq; omega
    by_cases h8 : q % 8 = 0
    · have hqe : q = evenAt p := by unfold evenAt at *; omega
      rw [h8] at e2
      go_wp2_with fail
      go_ret
      refine ⟨?_, by rw [← hqe]; exact hr, K⟩
      have hpo : (((n : Int)) == 0) = padOk s p := by
        unfold padOk
        rw [← hqe, Bool.eq_iff_iff, ← HI.out]
        simp
      show Ending.returned (.bool ((n : Int) == 0)) = _
      rw [hpo]
    · have hqn : q + 1 ≤ evenAt p := by unfold evenAt at *; omega
      have hqs : q < 8 * s.size := by unfold evenAt at *; omega
      have h8' : ((((q % 8 : Nat) : Int)) != 0) = true := by simp; omega
      have hc := sbit_calls g s _ _ wr hr
      have HC := Lib.hid hc
      clear hc
      have hs : ((rest s p).take (q + 1 - p)).all (!·) = (((rest s p).take (q - p)).all (!·) && (numAt s q 1 == 0)) := by
        have hl : q - p < (rest s p).length := by rw [rest_length]; omega
        rw [show q + 1 - p = (q - p) + 1 from by omega, List.take_succ_eq_append_getElem hl, List.all_append]
        have e : rest s q = (rest s p)[q - p] :: rest s (q + 1) := by
          have := rest_drop s p (q - p)
          rw [show p + (q - p) = q from by omega] at this
          have h3 := rest_drop s p (q + 1 - p)
          rw [show p + (q + 1 - p) = q + 1 from by omega] at h3
          rw [← this, ← h3, List.drop_eq_getElem_cons hl, show q - p + 1 = q + 1 - p from by omega]
        unfold numAt
        rw [e]
        cases (rest s p)[q - p] <;> rfl
      have HS := Lib.hid hs
      clear hs
      have hx := numAt_lt s q 1
      obtain ⟨x, hxx⟩ : ∃ x, numAt s q 1 = x := ⟨_, rfl⟩
      rw [hxx] at hx HS
      have HX := Lib.hid hxx
      clear hxx
      go_wp2_with fail
      refine HC.out.mono ?_
      rintro e w2 ⟨rfl, hr2, K2⟩
      rw [HX.out]
      go_wp2_with fail
      have hr3 : SR w2 g s (q + 1) b := by
        rw [Nat.min_eq_left (by omega), show decide (8 * s.size < q + 1) = false from by simp; omega, Bool.or_false] at hr2
        exact hr2
      go_roundw
      case rel =>
        refine ⟨q + 1, n + x, by go_num, by omega, by omega, hqn, ?_, hr3, K.then K2⟩
        rw [HS.out, Bool.and_eq_true, ← HI.out, beq_iff_eq]
        omega
      case measure =>
        have c3 : w2.cell? ⟨g, 1, none⟩ = some (.int .i64 ((q + 1 : Nat) : Int)) := (hr3.out.cell 1).trans rfl
        rw [c3, c1]
        simp [intOf]; omega
end Go.Proofs.YtncidljdfipigaaDoor.Wi

/- Small words on rows of whole numbers: one that a call made, one that is only read, making one. -/
namespace Go.Proofs.YtncidljdfipigaaDoor.Mem
open Go.RowKit
set_option linter.unusedVariables false
/-- Numbers as cells. -/
def i64s (l : List Nat) : List Value := l.map fun n : Nat => Value.int .i64 (n : Int)
theorem i64s_length (l : List Nat) : (i64s l).length = l.length := by simp [i64s]
theorem i64s_get {l : List Nat} {i : Nat} (h : i < l.length) : (i64s l)[i]? = some (.int .i64 (l.getD i 0 : Nat)) := by
  unfold i64s; rw [List.getElem?_map, List.getElem?_eq_getElem h, List.getD_eq_getElem?_getD, List.getElem?_eq_getElem h]; rfl
/-- A row that is only read, from a place of its block on. -/
structure RowO (w : World) (g o t : Nat) (xs : List Value) : Prop where mk :: (out : ∃ cs, Blk w g t cs ∧ (cs.toList.drop o).take xs.length = xs)
section
variable {w w' : World} {g o t : Nat} {xs : List Value}
theorem RowO.lt (h : RowO w g o t xs) : g < w.heap.size := by obtain ⟨cs, hb, _⟩ := h.out; exact hb.lt
theorem RowO.cell (h : RowO w g o t xs) {i : Nat} {x : Value} (hx : xs[i]? = some x) : w.cell? ⟨g, o + i, none⟩ = some x := by
  obtain ⟨cs, hb, ht⟩ := h.out
  rw [hb.cell, ← hx, ← Array.getElem?_toList, ← ht, List.getElem?_take, List.getElem?_drop]
  have : i < xs.length := by
    rcases Nat.lt_or_ge i xs.length with hl | hl
    · exact hl
    · rw [List.getElem?_eq_none hl] at hx; cases hx
  rw [if_pos (by simpa [ht] using this)]
theorem RowO.kp {S : List Nat} (h : RowO w g o t xs) (k : Kp S w w') (hg : g ∉ S) : RowO w' g o t xs := by
  obtain ⟨cs, hb, ht⟩ := h.out
  exact ⟨cs, k.blk hb hg, ht⟩
theorem RowO.on (h : RowO w g o t xs) (O : On w w') : RowO w' g o t xs := h.kp (Kp.of [] O) (by simp)
theorem Row.toO (h : Row w g t xs) : RowO w g 0 t xs := by obtain ⟨cs, hb, ht⟩ := h.out; exact ⟨cs, hb, ht⟩
theorem RowO.toRow (h : RowO w g 0 t xs) : Row w g t xs := by obtain ⟨cs, hb, ht⟩ := h.out; exact ⟨cs, hb, ht⟩
theorem Row.sub (h : Row w g t xs) (a n : Nat) : RowO w g a t ((xs.drop a).take n) := by
  obtain ⟨cs, hb, ht⟩ := h.out
  refine ⟨cs, hb, ?_⟩
  have e : (xs.drop a).take n = (cs.toList.drop a).take (min n (xs.length - a)) := by
    conv => lhs; rw [← ht]
    rw [List.drop_take, List.take_take]
  rw [List.length_take, List.length_drop]
  exact e.symm
end
/-- A row of numbers at block r that a call made. -/
structure Nums (w : World) (r : Nat) (v : Value) (l : List Nat) : Prop where
  own : w.ownsRow 0 3 1 v l.length (i64s l)
  at_ : ∀ g, v.ownBlock = some g → g = r
section
variable {w w' : World} {r : Nat} {l : List Nat} {n cap : Nat} {v : Value}
theorem Nums.kp {S : List Nat} (h : Nums w r v l) (k : Kp S w w') (hr : r ∉ S) : Nums w' r v l := ⟨k.owns h.own (fun g hg => by rw [h.at_ g hg]; exact hr), h.at_⟩
theorem Nums.on (h : Nums w r v l) (O : On w w') : Nums w' r v l := h.kp (Kp.of [] O) (by simp)
theorem Nums.row (h : Nums w r (.slice (some ⟨r, 0, none⟩) n cap) l) : Row w r 3 (i64s l) ∧ n = l.length ∧ n ≤ cap ∧ cap ≤ maxLen := by
  rcases h.own.2 with ⟨h0, _⟩ | ⟨g, c, cur, hv, _, hh, h1, h2, h3, h4⟩
  · cases h0
  · cases hv
    exact ⟨⟨cur, ⟨hh⟩, by rw [h.own.1]; exact h4⟩, rfl, h1, h2⟩
theorem Nums.slice (h : Nums w r v l) (hn : v ≠ .slice none 0 0) : ∃ cap, v = .slice (some ⟨r, 0, none⟩) l.length cap ∧ l.length ≤ cap ∧ cap ≤ maxLen ∧ Row w r 3 (i64s l) := by
  rcases h.own.2 with ⟨h0, _⟩ | ⟨g, c, cur, hv, _, hh, h1, h2, h3, h4⟩
  · exact absurd h0 hn
  · have : g = r := h.at_ g (by rw [hv]; rfl)
    subst this
    exact ⟨c, hv, h1, h2, ⟨cur, ⟨hh⟩, by rw [h.own.1]; exact h4⟩⟩
theorem Nums.set (h : Nums w r (.slice (some ⟨r, 0, none⟩) n cap) l) (i x : Nat) : Nums (w.setCell ⟨r, i, none⟩ (.int .i64 (x : Int))) r (.slice (some ⟨r, 0, none⟩) n cap) (l.set i x) := by
  have hn := h.row.2.1
  have ho := h.own
  subst hn
  have := ho.stored i (.int .i64 (x : Int))
  refine ⟨?_, h.at_⟩
  have e : (i64s l).set i (.int .i64 (x : Int)) = i64s (l.set i x) := by unfold i64s; rw [List.map_set]
  rw [List.length_set, ← e]
  exact this.1
end
theorem i64info : (Tryd.prog.info? 3).map (fun i => (i.zero, i.size, i.bytes)) = some (some (.int .i64 0), 1, 8) := by kernel_rfl
/-- make([]int, n). -/
theorem wpList_ints {ops : Array Oper} {rest : List Oper} {o : Oper} {a : Act} {Q : Exit → Act → World → Prop} (W : World) (hg : o.guard = none) (l c : Operand) (hop : o.op = Op.makeSlice 58 l c)
    (L C : Int) (n : Nat) (hl : a.eval l = .int .i64 L) (hc : a.eval c = .int .i64 C) (hL : L = (n : Int)) (hC : C = (n : Int)) (hn : n ≤ 1000000)
    (hK : ∀ w1, Nums w1 W.heap.size (.slice (some ⟨W.heap.size, 0, none⟩) n n) (List.replicate n 0) → On W w1 → W.heap.size < w1.heap.size → wpList Tryd.prog ops Q rest (a.put o.dst (.slice (some ⟨W.heap.size, 0, none⟩) n n)) w1) :
    wpList Tryd.prog ops Q (o :: rest) a W := by
  obtain ⟨i0, hi, hz0, hz1, hz2⟩ := info_parts i64info
  refine wpList_make_full W hg l c 58 hop 0 3 i0 (.int .i64 0) 1 Tryd.underlying58 hi hz0 hz1 .i64 .i64 L C n hl hc hL hC (by rw [hz2]; omega) (by unfold maxLen; omega) (Nat.zero_le _) ?_
  intro w1 hown hgr
  have e : (madeCells (Value.int .i64 0).cells (n * 1)).toList = i64s (List.replicate n 0) := by
    rw [show (Value.int .i64 0).cells = #[.int .i64 0] from rfl, toList_madeCells_one, Nat.mul_one]
    unfold i64s; rw [List.map_replicate]; rfl
  rw [e] at hown
  have hlt : W.heap.size < w1.heap.size := by
    rcases hown.2 with ⟨h0, _⟩ | ⟨g, c, cur, hv, _, hh, _⟩
    · cases h0
    · cases hv
      rcases Nat.lt_or_ge W.heap.size w1.heap.size with hl | hl
      · exact hl
      · rw [Array.getElem?_eq_none hl] at hh; cases hh
  exact hK w1 ⟨by rw [List.length_replicate]; exact hown, fun g hg => by simp [Value.ownBlock] at hg; exact hg.symm⟩ ((Kp.grown hgr (S := []) (fun g h => by cases h)).toOn) hlt
/-- What a contract tells that makes numbers: a row of its own, and what was stays. -/
def GivesI (w : World) (l : List Nat) (e : Ending) (w' : World) : Prop := ∃ r cap, e = .returned (.slice (some ⟨r, 0, none⟩) l.length cap) ∧ Nums w' r (.slice (some ⟨r, 0, none⟩) l.length cap) l ∧ w.heap.size ≤ r ∧ r < w'.heap.size ∧ On w w'
end Go.Proofs.YtncidljdfipigaaDoor.Mem

/- Codes by their lengths, in both programs: the plain ones. Conditions: sizes. -/
namespace Go.Proofs.YtncidljdfipigaaDoor.Wi
open Go.RowKit Go.Proofs.YtncidljdfipigaaDoor.Mem Go.Proofs.YtncidljdfipigaaDoor.Cd
set_option linter.unusedVariables false
set_option linter.unusedSimpArgs false
/-- The codes as far as they are made: all shorter ones, and those of length l up to symbol k. -/
def outAt (lens : List Nat) (l k : Nat) : List Nat := (List.range lens.length).map fun i => if 1 ≤ lens.getD i 0 ∧ (lens.getD i 0 < l ∨ lens.getD i 0 = l ∧ i < k) then code lens i else 0
theorem outAt_length (lens : List Nat) (l k : Nat) : (outAt lens l k).length = lens.length := by simp [outAt]
theorem outAt_zero (lens : List Nat) : outAt lens 1 0 = List.replicate lens.length 0 := by
  unfold outAt
  apply List.ext_getElem (by simp)
  intro i h1 h2
  simp only [List.getElem_map, List.getElem_range, List.getElem_replicate]
  rw [if_neg (by omega)]
theorem outAt_next (lens : List Nat) (l : Nat) (h : 1 ≤ l) : outAt lens (l + 1) 0 = outAt lens l lens.length := by
  unfold outAt
  apply List.map_congr_left
  intro i hi
  have := List.mem_range.1 hi
  by_cases c : 1 ≤ lens.getD i 0 ∧ (lens.getD i 0 < l + 1 ∨ lens.getD i 0 = l + 1 ∧ i < 0)
  · rw [if_pos c, if_pos (by omega)]
  · rw [if_neg c, if_neg (by omega)]
theorem outAt_end (lens : List Nat) : outAt lens 16 0 = codes lens := by
  unfold outAt codes
  apply List.map_congr_left
  intro i hi
  by_cases c : 1 ≤ lens.getD i 0 ∧ lens.getD i 0 ≤ 15
  · rw [if_pos (by omega)]
  · rw [if_neg (by omega)]
    unfold code
    rw [if_neg c]
theorem outAt_skip (lens : List Nat) (l k : Nat) (h : lens.getD k 0 ≠ l) : outAt lens l (k + 1) = outAt lens l k := by
  unfold outAt
  apply List.map_congr_left
  intro i hi
  by_cases e : i = k
  · subst e
    by_cases c : 1 ≤ lens.getD i 0 ∧ (lens.getD i 0 < l ∨ lens.getD i 0 = l ∧ i < i + 1)
    · rw [if_pos c, if_pos (by omega)]
    · rw [if_neg c, if_neg (by omega)]
  · by_cases c : 1 ≤ lens.getD i 0 ∧ (lens.getD i 0 < l ∨ lens.getD i 0 = l ∧ i < k + 1)
    · rw [if_pos c, if_pos (by omega)]
    · rw [if_neg c, if_neg (by omega)]
theorem outAt_at (lens : List Nat) (l k : Nat) {i : Nat} (h : i < lens.length) : (outAt lens l k)[i]? = some (if 1 ≤ lens.getD i 0 ∧ (lens.getD i 0 < l ∨ lens.getD i 0 = l ∧ i < k) then code lens i else 0) := by
  unfold outAt; rw [List.getElem?_map, List.getElem?_range h]; rfl
theorem outAt_take (lens : List Nat) (l k : Nat) (h : lens.getD k 0 = l) (h1 : 1 ≤ l) (h2 : l ≤ 15) (hk : k < lens.length) : outAt lens l (k + 1) = (outAt lens l k).set k (codeAt lens l k) := by
  apply List.ext_getElem?
  intro i
  rw [List.getElem?_set, outAt_length]
  by_cases hi : i < lens.length
  · rw [outAt_at lens l (k + 1) hi, outAt_at lens l k hi]
    by_cases e : k = i
    · subst e
      rw [if_pos rfl, if_pos hk, if_pos (by omega)]
      unfold code
      rw [h, if_pos ⟨h1, h2⟩]
    · rw [if_neg e]
      by_cases c : 1 ≤ lens.getD i 0 ∧ (lens.getD i 0 < l ∨ lens.getD i 0 = l ∧ i < k + 1)
      · rw [if_pos c, if_pos (by omega)]
      · rw [if_neg c, if_neg (by omega)]
  · rw [List.getElem?_eq_none (by rw [outAt_length]; omega), if_neg (by omega), List.getElem?_eq_none (by rw [outAt_length]; omega)]
theorem first_le (lens : List Nat) : ∀ l, first lens l ≤ 4 ^ l * lens.length
  | 0 => by simp [first]
  | 1 => by simp [first]
  | l + 2 => by
    have ih := first_le lens (l + 1)
    have hc := List.count_le_length (a := l + 1) (l := lens)
    have h1 : 1 ≤ 4 ^ (l + 1) := Nat.pos_of_ne_zero (by simp)
    have h2 : lens.length ≤ 4 ^ (l + 1) * lens.length := Nat.le_mul_of_pos_left _ h1
    have e : 4 ^ (l + 2) * lens.length = 4 * (4 ^ (l + 1) * lens.length) := by rw [Nat.pow_succ (n := 4) (m := l + 1), Nat.mul_comm (4 ^ (l + 1)) 4, Nat.mul_assoc]
    rw [e, first]
    omega
theorem codeAt_le (lens : List Nat) (l k : Nat) (hl : l ≤ 16) (hn : lens.length ≤ 1000) : codeAt lens l k ≤ 8589934592000 := by
  have a := first_le lens l
  have b := count_take_le lens k l
  have c := List.count_le_length (a := l) (l := lens)
  have d : 4 ^ l ≤ 4 ^ 16 := Nat.pow_le_pow_right (by omega) hl
  have e : 4 ^ l * lens.length ≤ 4 ^ 16 * 1000 := Nat.mul_le_mul d hn
  unfold codeAt
  omega
theorem codeAt_step (lens : List Nat) (l k : Nat) (hk : k < lens.length) : codeAt lens l (k + 1) = codeAt lens l k + if lens.getD k 0 = l then 1 else 0 := by
  unfold codeAt
  rw [count_take_succ hk]
  omega
theorem codeAt_next (lens : List Nat) (l : Nat) (h : 1 ≤ l) : codeAt lens (l + 1) 0 = 2 * codeAt lens l lens.length := by
  unfold codeAt
  rw [first_succ lens h]
  simp
set_option maxRecDepth 100000 in
set_option maxHeartbeats 1000000 in
theorem icodes_calls (lens : List Nat) (g o n cap : Nat) (w : World) (hR : RowO w g o 3 (i64s lens)) (hl : lens.length = n) (hn : n ≤ 1000) (hc : n ≤ cap) :
    Calls Tryd.prog 66 #[.slice (some ⟨g, o, none⟩) n cap] w (GivesI w (codes lens)) := by
  have HL := Lib.hid hl
  have hcl : (codes lens).length = n := by rw [codes_length, hl]
  have HC := Lib.hid hcl
  clear hl hcl
  go_enter Tryd.func66, Tryd.ntmps66
  go_wp2_with (at_make; go_must (refine wpList_ints _ rfl _ _ rfl _ _ n rfl rfl rfl rfl (by omega) ?_); intro w1 hN1 O1 hlt1)
  have R1 := hR.on O1
  have hg1 : g < w.heap.size := hR.lt
  rw [← HL.out] at hN1
  rw [← outAt_zero] at hN1
  rw [HL.out] at hN1
  generalize hB : w.heap.size = B at *
  have HB := Lib.hid hB
  clear hB
  go_loopw [4, 5] (fun a b wr => ∃ l : Nat, 1 ≤ l ∧ l ≤ 16 ∧ b = .int .i64 (l : Int) ∧ a = .int .i64 (codeAt lens l 0 : Nat) ∧ Nums wr B (.slice (some ⟨B, 0, none⟩) n n) (outAt lens l 0) ∧ Kp [B] w1 wr) (fun _ b _ => 16 - (intOf b).toNat)
  case atStart => exact ⟨1, by omega, by omega, rfl, rfl, hN1, Kp.refl _ _⟩
  case round =>
    obtain ⟨l, hl1, hl2, rfl, rfl, hN, K⟩ := hrel
    by_cases hlt : l ≤ 15
    · have hlt' : (l : Int) ≤ 15 := by omega
      obtain ⟨wo, hwo⟩ : ∃ wo : World, wo = wr := ⟨_, rfl⟩
      subst hwo
      go_wp2_with fail
      go_loopw [4, 17] (fun a b wr => ∃ k : Nat, k ≤ n ∧ b = .int .i64 (k : Int) ∧ a = .int .i64 (codeAt lens l k : Nat) ∧ Nums wr B (.slice (some ⟨B, 0, none⟩) n n) (outAt lens l k) ∧ Kp [B] w1 wr) (fun _ b _ => n - (intOf b).toNat)
      case atStart => exact ⟨0, by omega, rfl, rfl, hN, K⟩
      case round =>
        obtain ⟨k, hk, rfl, rfl, hN, K⟩ := hrel
        by_cases hkn : k < n
        · have hkl : k < lens.length := by rw [HL.out]; exact hkn
          have c0 : wr.cell? ⟨g, o + k, none⟩ = some (.int .i64 (lens.getD k 0 : Nat)) := (R1.kp K (by simp; omega)).cell (i64s_get hkl)
          obtain ⟨RB, _, _, _⟩ := hN.row
          have cB : wr.cell? ⟨B, k, none⟩ = some (.int .i64 ((outAt lens l k).getD k 0 : Nat)) := RB.cell (i64s_get (by rw [outAt_length]; exact hkl))
          have fB : wr.frozen? ⟨B, k, none⟩ = false := RB.frozen _
          have hst := codeAt_step lens l k hkl
          have hle := codeAt_le lens l k (by omega) (by rw [HL.out]; omega)
          have hsk := outAt_skip lens l k
          have htk := fun h => outAt_take lens l k h hl1 hlt hkl
          generalize hx : lens.getD k 0 = x at *
          generalize codeAt lens l k = c at *
          generalize (outAt lens l k).getD k 0 = y at *
          have HX := Lib.hid hx
          have HSK := Lib.hid hsk
          have HTK := Lib.hid htk
          have HST := Lib.hid hst
          clear hx hsk htk hst
          by_cases hxl : x = l
          · have hb : ((x : Int) == (l : Int)) = true := by simp [hxl]
            have S1 := hN.set k c
            have K1 := K.set (p := ⟨B, k, none⟩) (.inl (by simp)) (.int .i64 (c : Int))
            have h1 := HTK.out hxl
            have h2 := HST.out
            rw [if_pos hxl] at h2
            rw [← h1] at S1
            have H2 := Lib.hid h2
            clear h1 h2
            have hxl' := Lib.hid hxl
            clear hxl
            go_wp2_with fail
            go_roundw
            case rel => exact ⟨k + 1, by omega, by go_num, by rw [H2.out]; go_num, S1, K1⟩
            case measure => simp [intOf]; omega
          · have hb : ((x : Int) == (l : Int)) = false := by simp; omega
            have h1 := HSK.out hxl
            have h2 := HST.out
            rw [if_neg hxl] at h2
            have H1 := Lib.hid h1
            have H2 := Lib.hid h2
            clear h1 h2
            go_wp2_with fail
            go_roundw
            case rel => exact ⟨k + 1, by omega, by go_num, by rw [H2.out]; rfl, by rw [H1.out]; exact hN, K⟩
            case measure => simp [intOf]; omega
        · obtain rfl : k = n := by omega
          have hle := codeAt_le lens l k (by omega) (by rw [HL.out]; omega)
          have hnx := codeAt_next lens l hl1
          have hno := outAt_next lens l hl1
          rw [HL.out] at hnx hno
          have HNX := Lib.hid hnx
          have HNO := Lib.hid hno
          clear hnx hno
          generalize codeAt lens l k = c at *
          go_wp2_with fail
          go_roundw
          case rel => exact ⟨l + 1, by omega, by omega, by go_num, by rw [HNX.out]; go_num, by rw [HNO.out]; exact hN, K⟩
          case measure => simp [intOf]; omega
    · obtain rfl : l = 16 := by omega
      go_wp2_with fail
      go_ret
      rw [outAt_end] at hN
      refine ⟨B, n, by rw [HC.out]; rfl, by rw [HC.out]; exact hN, by rw [HB.out]; exact Nat.le_refl _, Nat.lt_of_lt_of_le hlt1 K.size, ?_⟩
      exact K.on O1 (fun x hx => by simp at hx; rw [HB.out]; omega)
set_option maxRecDepth 100000 in
set_option maxHeartbeats 1000000 in
theorem scodes_calls (lens : List Nat) (g o n cap : Nat) (w : World) (hR : RowO w g o 3 (i64s lens)) (hl : lens.length = n) (hn : n ≤ 1000) (hc : n ≤ cap) :
    Calls Tryd.prog 128 #[.slice (some ⟨g, o, none⟩) n cap] w (GivesI w (codes lens)) := by
  have HL := Lib.hid hl
  have hcl : (codes lens).length = n := by rw [codes_length, hl]
  have HC := Lib.hid hcl
  clear hl hcl
  go_enter Tryd.func128, Tryd.ntmps128
  go_wp2_with (at_make; go_must (refine wpList_ints _ rfl _ _ rfl _ _ n rfl rfl rfl rfl (by omega) ?_); intro w1 hN1 O1 hlt1)
  have R1 := hR.on O1
  have hg1 : g < w.heap.size := hR.lt
  rw [← HL.out] at hN1
  rw [← outAt_zero] at hN1
  rw [HL.out] at hN1
  generalize hB : w.heap.size = B at *
  have HB := Lib.hid hB
  clear hB
  go_loopw [4, 5] (fun a b wr => ∃ l : Nat, 1 ≤ l ∧ l ≤ 16 ∧ b = .int .i64 (l : Int) ∧ a = .int .i64 (codeAt lens l 0 : Nat) ∧ Nums wr B (.slice (some ⟨B, 0, none⟩) n n) (outAt lens l 0) ∧ Kp [B] w1 wr) (fun _ b _ => 16 - (intOf b).toNat)
  case atStart => exact ⟨1, by omega, by omega, rfl, rfl, hN1, Kp.refl _ _⟩
  case round =>
    obtain ⟨l, hl1, hl2, rfl, rfl, hN, K⟩ := hrel
    by_cases hlt : l ≤ 15
    · have hlt' : (l : Int) ≤ 15 := by omega
      obtain ⟨wo, hwo⟩ : ∃ wo : World, wo = wr := ⟨_, rfl⟩
      subst hwo
      go_wp2_with fail
      go_loopw [4, 6] (fun a b wr => ∃ k : Nat, k ≤ n ∧ b = .int .i64 (k : Int) ∧ a = .int .i64 (codeAt lens l k : Nat) ∧ Nums wr B (.slice (some ⟨B, 0, none⟩) n n) (outAt lens l k) ∧ Kp [B] w1 wr) (fun _ b _ => n - (intOf b).toNat)
      case atStart => exact ⟨0, by omega, rfl, rfl, hN, K⟩
      case round =>
        obtain ⟨k, hk, rfl, rfl, hN, K⟩ := hrel
        by_cases hkn : k < n
        · have hkl : k < lens.length := by rw [HL.out]; exact hkn
          have c0 : wr.cell? ⟨g, o + k, none⟩ = some (.int .i64 (lens.getD k 0 : Nat)) := (R1.kp K (by simp; omega)).cell (i64s_get hkl)
          obtain ⟨RB, _, _, _⟩ := hN.row
          have cB : wr.cell? ⟨B, k, none⟩ = some (.int .i64 ((outAt lens l k).getD k 0 : Nat)) := RB.cell (i64s_get (by rw [outAt_length]; exact hkl))
          have fB : wr.frozen? ⟨B, k, none⟩ = false := RB.frozen _
          have hst := codeAt_step lens l k hkl
          have hle := codeAt_le lens l k (by omega) (by rw [HL.out]; omega)
          have hsk := outAt_skip lens l k
          have htk := fun h => outAt_take lens l k h hl1 hlt hkl
          generalize hx : lens.getD k 0 = x at *
          generalize codeAt lens l k = c at *
          generalize (outAt lens l k).getD k 0 = y at *
          have HX := Lib.hid hx
          have HSK := Lib.hid hsk
          have HTK := Lib.hid htk
          have HST := Lib.hid hst
          clear hx hsk htk hst
          by_cases hxl : x = l
          · have hb : ((x : Int) == (l : Int)) = true := by simp [hxl]
            have S1 := hN.set k c
            have K1 := K.set (p := ⟨B, k, none⟩) (.inl (by simp)) (.int .i64 (c : Int))
            have h1 := HTK.out hxl
            have h2 := HST.out
            rw [if_pos hxl] at h2
            rw [← h1] at S1
            have H2 := Lib.hid h2
            clear h1 h2
            have hxl' := Lib.hid hxl
            clear hxl
            go_wp2_with fail
            go_roundw
            case rel => exact ⟨k + 1, by omega, by go_num, by rw [H2.out]; go_num, S1, K1⟩
            case measure => simp [intOf]; omega
          · have hb : ((x : Int) == (l : Int)) = false := by simp; omega
            have h1 := HSK.out hxl
            have h2 := HST.out
            rw [if_neg hxl] at h2
            have H1 := Lib.hid h1
            have H2 := Lib.hid h2
            clear h1 h2
            go_wp2_with fail
            go_roundw
            case rel => exact ⟨k + 1, by omega, by go_num, by rw [H2.out]; rfl, by rw [H1.out]; exact hN, K⟩
            case measure => simp [intOf]; omega
        · obtain rfl : k = n := by omega
          have hle := codeAt_le lens l k (by omega) (by rw [HL.out]; omega)
          have hnx := codeAt_next lens l hl1
          have hno := outAt_next lens l hl1
          rw [HL.out] at hnx hno
          have HNX := Lib.hid hnx
          have HNO := Lib.hid hno
          clear hnx hno
          generalize codeAt lens l k = c at *
          go_wp2_with fail
          go_roundw
          case rel => exact ⟨l + 1, by omega, by omega, by go_num, by rw [HNX.out]; go_num, by rw [HNO.out]; exact hN, K⟩
          case measure => simp [intOf]; omega
    · obtain rfl : l = 16 := by omega
      go_wp2_with fail
      go_ret
      rw [outAt_end] at hN
      refine ⟨B, n, by rw [HC.out]; rfl, by rw [HC.out]; exact hN, by rw [HB.out]; exact Nat.le_refl _, Nat.lt_of_lt_of_le hlt1 K.size, ?_⟩
      exact K.on O1 (fun x hx => by simp at hx; rw [HB.out]; omega)
end Go.Proofs.YtncidljdfipigaaDoor.Wi

/- Whether a number is within bounds. -/
namespace Go.Proofs.YtncidljdfipigaaDoor.Wi
open Go.RowKit Go.Proofs.YtncidljdfipigaaDoor.Mem
set_option linter.unusedSimpArgs false
theorem within_same (n l h : Int) (w : World) :
    Calls Tryd.prog 97 #[.int .i64 n, .int .i64 l, .int .i64 h] w (fun e w' => e = .returned (.bool (decide (l ≤ n ∧ n ≤ h))) ∧ w' = w) := by
  by_cases h1 : l ≤ n
  · by_cases h2 : n ≤ h
    · go_enter Tryd.func97, Tryd.ntmps97
      go_wp2_with fail
      go_ret
      exact ⟨by simp [h1, h2], rfl⟩
    · go_enter Tryd.func97, Tryd.ntmps97
      go_wp2_with fail
      go_ret
      exact ⟨by simp [h1, h2], rfl⟩
  · go_enter Tryd.func97, Tryd.ntmps97
    go_wp2_with fail
    go_ret
    exact ⟨by simp; omega, rfl⟩
theorem within_yes {n l h : Int} (w : World) (h1 : l ≤ n) (h2 : n ≤ h) : Calls Tryd.prog 97 #[.int .i64 n, .int .i64 l, .int .i64 h] w (fun e w' => e = .returned (.bool true) ∧ w' = w) := by
  have := within_same n l h w
  rw [decide_eq_true ⟨h1, h2⟩] at this
  exact this
theorem within_no {n l h : Int} (w : World) (h1 : ¬ (l ≤ n ∧ n ≤ h)) : Calls Tryd.prog 97 #[.int .i64 n, .int .i64 l, .int .i64 h] w (fun e w' => e = .returned (.bool false) ∧ w' = w) := by
  have := within_same n l h w
  rw [decide_eq_false h1] at this
  exact this
end Go.Proofs.YtncidljdfipigaaDoor.Wi

/- What the program's LensOk answers: whether lengths make a code. Conditions: lengths and how many, not too great. -/
namespace Go.Proofs.YtncidljdfipigaaDoor.Wi
open Go.RowKit Go.Proofs.YtncidljdfipigaaDoor.Mem Go.Proofs.YtncidljdfipigaaDoor.Bt Go.Proofs.YtncidljdfipigaaDoor.Cd
set_option linter.unusedVariables false
set_option linter.unusedSimpArgs false
theorem kraft_snoc (l : List Nat) (x : Nat) : kraft (l ++ [x]) = kraft l + if x = 0 then 0 else 2 ^ (15 - x) := by unfold kraft; simp
theorem used_snoc (l : List Nat) (x : Nat) : used (l ++ [x]) = used l + if 0 < x then 1 else 0 := by
  unfold used; rw [List.filter_append]; by_cases h : 0 < x <;> simp [h]
/-- What is known of lengths that have been gone through: a sum, how many, the last. -/
structure Sums (l : List Nat) (a b c : Nat) : Prop where mk ::
  sum : a = kraft l
  many : b = used l
  le : b = 0 → a = 0
  one : b = 1 → 1 ≤ c ∧ c ≤ 15 ∧ a = 2 ^ (15 - c)
theorem Sums.nil : Sums [] 0 0 0 := ⟨rfl, rfl, fun _ => rfl, fun h => by cases h⟩
theorem Sums.zero {l : List Nat} {a b c : Nat} (h : Sums l a b c) : Sums (l ++ [0]) a b c := ⟨by rw [kraft_snoc]; simpa using h.sum, by rw [used_snoc]; simpa using h.many, h.le, h.one⟩
theorem Sums.add {l : List Nat} {a b c x : Nat} (h : Sums l a b c) (h1 : 1 ≤ x) (h2 : x ≤ 15) : Sums (l ++ [x]) (a + 2 ^ (15 - x)) (b + 1) x :=
  ⟨by rw [kraft_snoc, if_neg (by omega), h.sum], by rw [used_snoc, if_pos (by omega), h.many], fun e => by omega, fun e => ⟨h1, h2, by rw [h.le (by omega), Nat.zero_add]⟩⟩
theorem Sums.ok {l : List Nat} {a b c : Nat} (h : Sums l a b c) (hl : l.length ≤ 300) (h15 : ∀ x ∈ l, x ≤ 15) : okLens l = (decide (a = 32768) || (decide (b = 1) && decide (c = 1))) := by
  unfold okLens
  rw [show decide (l.length ≤ 300) = true from by simpa using hl, show l.all (fun x => decide (x ≤ 15)) = true from by simpa using h15, ← h.sum, ← h.many]
  simp only [Bool.true_and]
  congr 1
  by_cases hb : b = 1
  · obtain ⟨o1, o2, o3⟩ := h.one hb
    congr 1
    rw [o3, Bool.eq_iff_iff]
    simp only [decide_eq_true_eq]
    constructor
    · intro e
      rcases Nat.lt_or_ge c 2 with h | h
      · omega
      · have : 2 ^ (15 - c) ≤ 2 ^ 13 := Nat.pow_le_pow_right (by omega) (by omega)
        omega
    · rintro rfl; rfl
  · simp [hb]
theorem ok_bad {l : List Nat} {x : Nat} (h : x ∈ l) (hx : 15 < x) : okLens l = false := by
  unfold okLens
  rw [show l.all (fun x => decide (x ≤ 15)) = false from by rw [List.all_eq_false]; exact ⟨x, h, by simp; omega⟩]
  simp
theorem ok_long {l : List Nat} (h : 300 < l.length) : okLens l = false := by
  unfold okLens
  rw [show decide (l.length ≤ 300) = false from by simp; omega]; simp
theorem kraft_take_le : ∀ (l : List Nat) (k : Nat), kraft (l.take k) ≤ 16384 * k
  | _, 0 => by simp [kraft]
  | [], k + 1 => by simp [kraft]
  | x :: l, k + 1 => by
    have := kraft_take_le l k
    have hp : 2 ^ (15 - x) ≤ 2 ^ 15 := Nat.pow_le_pow_right (by omega) (by omega)
    have hq : x ≠ 0 → 2 ^ (15 - x) ≤ 2 ^ 14 := fun _ => Nat.pow_le_pow_right (by omega) (by omega)
    unfold kraft at this ⊢
    simp only [List.take_succ_cons, List.map_cons, List.sum_cons]
    split
    · omega
    · rename_i h; have := hq h; omega
set_option maxRecDepth 100000 in
theorem lensok_calls (lens : List Nat) (g o n cap : Nat) (w : World) (hl : RowO w g o 3 (i64s lens)) (hn : lens.length = n) (hn2 : n ≤ 1000) (hnc : n ≤ cap) (hx : ∀ x ∈ lens, x ≤ 100000) :
    Calls Tryd.prog 86 #[.slice (some ⟨g, o, none⟩) n cap] w fun e w' => e = .returned (.bool (okLens lens)) ∧ On w w' := by
  have HN := Lib.hid hn
  clear hn
  by_cases h3 : 300 < n
  · have h3' : (300 : Int) < n := by omega
    go_enter Tryd.func86, Tryd.ntmps86
    go_wp2_with fail
    go_ret
    exact ⟨by rw [ok_long (by rw [HN.out]; exact h3)]; rfl, On.refl _⟩
  have h3' : ¬ (300 : Int) < n := by omega
  go_enter Tryd.func86, Tryd.ntmps86
  go_wp2_with fail
  go_loopw [3, 4, 5, 13] (fun a b c x wr => ∃ (k sa sb sc : Nat), x = .int .i64 (k : Int) ∧ k ≤ n ∧ a = .int .i64 (sa : Int) ∧ b = .int .i64 (sb : Int) ∧ c = .int .i64 (sc : Int) ∧ Sums (lens.take k) sa sb sc ∧ sb ≤ k ∧ (∀ y ∈ lens.take k, y ≤ 15) ∧ On w wr) (fun _ _ _ x _ => n - (intOf x).toNat)
  case atStart => exact ⟨0, 0, 0, 0, rfl, by omega, rfl, rfl, rfl, Sums.nil, Nat.le_refl _, by simp, On.refl _⟩
  case round =>
    obtain ⟨k, sa, sb, sc, rfl, hk, rfl, rfl, rfl, S, hb, h15, O⟩ := hrel
    by_cases hlt : k < n
    · have hkl : k < lens.length := by rw [HN.out]; exact hlt
      have c0 := (hl.on O).cell (i64s_get hkl)
      have hmem : lens.getD k 0 ∈ lens := by rw [List.getD_eq_getElem?_getD, List.getElem?_eq_getElem hkl]; exact List.getElem_mem _
      have hx1 := hx _ hmem
      have htk : lens.take (k + 1) = lens.take k ++ [lens.getD k 0] := by rw [List.take_succ_eq_append_getElem hkl, List.getD_eq_getElem?_getD, List.getElem?_eq_getElem hkl]; rfl
      have HTK := Lib.hid htk
      have hkr := kraft_take_le lens k
      rw [← S.sum] at hkr
      have HS := Lib.hid S
      have H15 := Lib.hid h15
      have HM := Lib.hid hmem
      clear htk S h15 hmem
      generalize lens.getD k 0 = x at *
      have hk2 : (k : Int) < n := by omega
      by_cases hx15 : x ≤ 15
      · by_cases h0 : x = 0
        · subst h0
          go_wp2_with fail
          refine (within_yes _ (by omega) (by omega)).mono ?_
          rintro e w2 ⟨rfl, hw⟩
          obtain rfl : wr = w2 := hw.symm
          go_wp2_with fail
          go_roundw
          case rel => exact ⟨k + 1, sa, sb, sc, by go_num, by omega, rfl, rfl, rfl, by rw [HTK.out]; exact HS.out.zero, by omega, by rw [HTK.out]; intro y hy; simp only [List.mem_append, List.mem_singleton] at hy; (rcases hy with hy | rfl; exact H15.out y hy; omega), O⟩
          case measure => simp [intOf]; omega
        · have h1 : 1 ≤ x := by omega
          have hp : 2 ^ (15 - x) ≤ 2 ^ 15 := Nat.pow_le_pow_right (by omega) (by omega)
          have e1 : IntKind.i64.wrap (15 - (x : Int)) = ((15 - x : Nat) : Int) := by rw [IntKind.wrap_i64]; omega
          have e2 : IntKind.i64.wrap ((1 : Int) * 2 ^ (15 - x)) = ((2 ^ (15 - x) : Nat) : Int) := by
            rw [Int.one_mul, show (2 : Int) ^ (15 - x) = ((2 ^ (15 - x) : Nat) : Int) from by simp]; exact wr_i64 _ (Int.natCast_nonneg _) (Int.lt_of_le_of_lt (Int.ofNat_le.2 hp) (by decide))
          have e3 : IntKind.i64.wrap ((2 : Int) ^ (15 - x)) = ((2 ^ (15 - x) : Nat) : Int) := by
            rw [show (2 : Int) ^ (15 - x) = ((2 ^ (15 - x) : Nat) : Int) from by simp]; exact wr_i64 _ (Int.natCast_nonneg _) (Int.lt_of_le_of_lt (Int.ofNat_le.2 hp) (by decide))
          have h63 : ((15 - x : Nat) : Int) < 64 := by omega
          have hx0 : (0 : Int) < (x : Int) := by omega
          have hadd := HS.out.add h1 hx15
          have HA := Lib.hid hadd
          clear hadd
          generalize 2 ^ (15 - x) = z at *
          generalize 15 - x = zz at *
          go_wp2_with fail
          refine (within_yes _ (by omega) (by omega)).mono ?_
          rintro e w2 ⟨rfl, hw⟩
          obtain rfl : wr = w2 := hw.symm
          go_wp2_with fail
          go_roundw
          case rel => exact ⟨k + 1, sa + z, sb + 1, x, by go_num, by omega, by go_num, by go_num, rfl, by rw [HTK.out]; exact HA.out, by omega, by rw [HTK.out]; intro y hy; simp only [List.mem_append, List.mem_singleton] at hy; (rcases hy with hy | rfl; exact H15.out y hy; omega), O⟩
          case measure => simp [intOf]; omega
      · go_wp2_with fail
        refine (within_no _ (by omega)).mono ?_
        rintro e w2 ⟨rfl, hw⟩
        obtain rfl : wr = w2 := hw.symm
        go_wp2_with fail
        go_ret
        exact ⟨by rw [ok_bad HM.out (by omega)]; rfl, O⟩
    · obtain rfl : k = n := by omega
      have htk : lens.take k = lens := List.take_of_length_le (by rw [HN.out]; exact Nat.le_refl _)
      rw [htk] at S h15
      have hok := S.ok (by rw [HN.out]; omega) h15
      have HO := Lib.hid hok
      clear hok htk S h15
      by_cases q1 : sa = 32768
      · have q1' : ((sa : Int) == 32768) = true := by simp; omega
        go_wp2_with fail
        go_ret
        refine ⟨?_, O⟩
        show Ending.returned (.bool _) = _
        rw [HO.out]
        rw [decide_eq_true q1]; rfl
      · have q1' : ((sa : Int) == 32768) = false := by simp; omega
        by_cases q2 : sb = 1
        · have q2' : ((sb : Int) == 1) = true := by simp; omega
          go_wp2_with fail
          go_ret
          refine ⟨?_, O⟩
          show Ending.returned (.bool _) = _
          rw [HO.out]
          rw [decide_eq_false q1, decide_eq_true q2, Bool.false_or, Bool.true_and]
          congr 2
          rw [Bool.eq_iff_iff]; simp; omega
        · have q2' : ((sb : Int) == 1) = false := by simp; omega
          go_wp2_with fail
          go_ret
          refine ⟨?_, O⟩
          show Ending.returned (.bool _) = _
          rw [HO.out]
          rw [decide_eq_false q1, decide_eq_false q2]; rfl
end Go.Proofs.YtncidljdfipigaaDoor.Wi

/- A map from pieces of bits to numbers: how it is filled and looked up. -/
namespace Go.Proofs.YtncidljdfipigaaDoor.Mem
open Go.RowKit Go.Maps
set_option linter.unusedVariables false
set_option linter.unusedSimpArgs false
theorem laid_out : laidOutB Tryd.prog = true := by kernel_rfl
theorem piece_wide : (match Tryd.prog.underlying 117 with | some (.array _ _) | some (.struct _) => true | _ => false) = true := by rw [Tryd.underlying117]
theorem piece_row : (117 : TypeId) < Tryd.prog.types.size := of_decide_eq_true (by kernel_rfl)
set_option maxRecDepth 100000 in
theorem piece_law : WideMaps.KeyLaw Tryd.prog 117 := deep_law_laid laid_out (m := 2) (by omega) piece_row (by kernel_rfl) piece_wide
theorem piece_keyed : Keyed Tryd.prog 117 := Keyed.of_law piece_law
def pc (c l : Nat) : Value := .agg #[.int .i64 (c : Int), .int .i64 (l : Int)]
theorem pc_inj {a b c d : Nat} (h : pc a b = pc c d) : a = c ∧ b = d := by
  unfold pc at h
  simp only [Value.agg.injEq, Array.mk.injEq, List.cons.injEq, Value.int.injEq, true_and, and_true] at h
  omega
theorem pc_key {c l : Nat} (hc : c < 100000) (hl : l < 100000) : ∃ kl, keyOf Tryd.prog 117 (pc c l) = some kl := by
  have w1 : (Lit.int .i64 (c : Int)).wf = true := by simp [Lit.wf, IntKind.min, IntKind.max, IntKind.signed, IntKind.bits]; omega
  have w2 : (Lit.int .i64 (l : Int)).wf = true := by simp [Lit.wf, IntKind.min, IntKind.max, IntKind.signed, IntKind.bits]; omega
  have hk : Tryd.prog.keyType 117 = true := by kernel_rfl
  have hcell : Tryd.prog.cellsOf 117 = 2 := by kernel_rfl
  have hci : Tryd.prog.cellsOf 3 = 1 := by kernel_rfl
  have hf : (pc c l).formed Tryd.prog 117 = true := by simp [pc, Value.formed, Tryd.underlying117, hcell]
  have hr := piece_row
  unfold keyOf
  rw [Tryd.underlying117]
  obtain ⟨m, hm⟩ : ∃ m, Tryd.prog.types.size = m + 1 := Nat.exists_eq_succ_of_ne_zero (Nat.ne_of_gt (Nat.zero_lt_of_lt hr))
  rw [hm]
  simp [hk, hf, Program.keyLits, Tryd.underlying117, Tryd.underlying3, hcell, hci, pc, Value.cells, w1, w2]
  exact hf
/-- The map at block m holds f: for pieces that f knows, their number. -/
structure Book (w : World) (m : Nat) (f : Nat → Nat → Option Nat) : Prop where mk :: (out : ∃ es clock, w.heap[m]? = some (.map es clock) ∧
  (∀ e ∈ es.toList, ∃ c l k : Nat, c < 100000 ∧ l < 100000 ∧ e.key = pc c l ∧ e.val = .int .i64 (k : Int) ∧ f c l = some k) ∧ ∀ c l k, f c l = some k → ∃ e ∈ es.toList, e.key = pc c l)
section
variable {w w' : World} {m : Nat} {f : Nat → Nat → Option Nat}
theorem Book.lt (h : Book w m f) : m < w.heap.size := by
  obtain ⟨es, clock, hb, _⟩ := h.out
  rcases Nat.lt_or_ge m w.heap.size with h | h
  · exact h
  · rw [Array.getElem?_eq_none h] at hb; cases hb
theorem Book.kp {S : List Nat} (h : Book w m f) (k : Kp S w w') (hm : m ∉ S) : Book w' m f := by
  obtain ⟨es, clock, hb, rest⟩ := h.out
  exact ⟨es, clock, (k.block m h.lt hm).trans hb, rest⟩
theorem Book.new (w : World) : Book (w.alloc (.map #[] 0)) w.heap.size (fun _ _ => none) :=
  ⟨#[], 0, Array.getElem?_push_size, fun e he => (by simp at he), fun c l k h => (by cases h)⟩
set_option maxRecDepth 100000 in
theorem Book.find (h : Book w m f) {c l : Nat} (hc : c < 100000) (hl : l < 100000) :
    (Instr.lookup 91 (.map (some m)) (pc c l) true).run Tryd.prog w = .ok (match f c l with | some k => .tuple #[.int .i64 (k : Int), .bool true] | none => .tuple #[.int .i64 0, .bool false]) w := by
  obtain ⟨es, clock, hb, h1, h2⟩ := h.out
  obtain ⟨kl, hk⟩ := pc_key hc hl
  have hz : (zeroValue 3).run Tryd.prog w = .ok (.int .i64 0) w := by kernel_rfl
  have hes : ∀ e ∈ es.toList, ∃ l, keyOf Tryd.prog 117 e.key = some l := fun e he => by
    obtain ⟨c', l', k', hc', hl', e1, _⟩ := h1 e he
    rw [e1]; exact pc_key hc' hl'
  rcases piece_keyed.find w hk es.toList hes with ⟨f1, f2⟩ | ⟨j, e0, f1, f2, f3⟩
  · cases hf : f c l with
    | some k => obtain ⟨e, he, hke⟩ := h2 c l k hf; exact absurd hke (f2 e he)
    | none =>
      generalize (zeroValue 3 : Sem Value) = zv at hz
      simp [Instr.lookup, run_underlying Tryd.underlying91, MapKept.run_getObj_map hb, piece_keyed.check w _ hk, f1, hz, Result.andThen]
  · have hm := List.mem_of_getElem? f2
    obtain ⟨c', l', k', hc', hl', e1, e2, e3⟩ := h1 e0 hm
    obtain ⟨rfl, rfl⟩ := pc_inj (e1.symm.trans f3)
    rw [e3]
    simp [Instr.lookup, run_underlying Tryd.underlying91, MapKept.run_getObj_map hb, piece_keyed.check w _ hk, f1, Result.andThen, e2]
set_option maxRecDepth 100000 in
theorem Book.add (h : Book w m f) {c l k : Nat} (hc : c < 100000) (hl : l < 100000) (hn : f c l = none) :
    ∃ w', (Instr.mapUpdate 91 (.map (some m)) (pc c l) (.int .i64 (k : Int))).run Tryd.prog w = .ok () w' ∧ Book w' m (fun a b => if a = c ∧ b = l then some k else f a b) ∧ Kp [m] w w' := by
  obtain ⟨es, clock, hb, h1, h2⟩ := h.out
  obtain ⟨kl, hk⟩ := pc_key hc hl
  have hes : ∀ e ∈ es.toList, ∃ l, keyOf Tryd.prog 117 e.key = some l := fun e he => by
    obtain ⟨c', l', k', hc', hl', e1, _⟩ := h1 e he
    rw [e1]; exact pc_key hc' hl'
  have hm0 := h.lt
  rcases piece_keyed.find w hk es.toList hes with ⟨f1, f2⟩ | ⟨j, e0, f1, f2, f3⟩
  · refine ⟨ChangeMaps.setBlock w m (.map (es.push ⟨pc c l, .int .i64 (k : Int), clock⟩) (clock + 1)), ?_, ?_, ?_⟩
    · simp [Instr.mapUpdate, run_underlying Tryd.underlying91, MapKept.run_getObj_map hb, piece_keyed.check w false hk, f1, MapKept.run_setObj_map _ hb, Result.andThen, ChangeMaps.setBlock]
    · refine ⟨es.push ⟨pc c l, .int .i64 (k : Int), clock⟩, clock + 1, by simp [ChangeMaps.setBlock, hm0], ?_, ?_⟩
      · intro e he
        simp only [Array.toList_push, List.mem_append, List.mem_singleton] at he
        rcases he with he | rfl
        · obtain ⟨c', l', k', hc', hl', e1, e2, e3⟩ := h1 e he
          refine ⟨c', l', k', hc', hl', e1, e2, ?_⟩
          rw [if_neg (fun hh => ?_)]
          · exact e3
          · rw [hh.1, hh.2, hn] at e3; cases e3
        · exact ⟨c, l, k, hc, hl, rfl, rfl, by rw [if_pos ⟨rfl, rfl⟩]⟩
      · intro a b k' hk'
        by_cases hab : a = c ∧ b = l
        · obtain ⟨rfl, rfl⟩ := hab
          exact ⟨_, by simp only [Array.toList_push, List.mem_append, List.mem_singleton]; exact .inr rfl, rfl⟩
        · rw [if_neg hab] at hk'
          obtain ⟨e, he, h3⟩ := h2 a b k' hk'
          exact ⟨e, by simp only [Array.toList_push, List.mem_append]; exact .inl he, h3⟩
    · refine ⟨rfl, rfl, rfl, by simp [ChangeMaps.setBlock], fun j hj hs => ?_⟩
      simp only [List.mem_singleton] at hs
      simp [ChangeMaps.setBlock, Array.getElem?_setIfInBounds, Ne.symm hs]
  · have hm := List.mem_of_getElem? f2
    obtain ⟨c', l', k', hc', hl', e1, e2, e3⟩ := h1 e0 hm
    obtain ⟨rfl, rfl⟩ := pc_inj (e1.symm.trans f3)
    rw [e3] at hn; cases hn
end
end Go.Proofs.YtncidljdfipigaaDoor.Mem

/- The program's book: symbols by their codes. Conditions: lengths that fit. -/
namespace Go.Proofs.YtncidljdfipigaaDoor.Wi
open Go.RowKit Go.Proofs.YtncidljdfipigaaDoor.Mem Go.Proofs.YtncidljdfipigaaDoor.Bt Go.Proofs.YtncidljdfipigaaDoor.Cd
set_option linter.unusedVariables false
set_option linter.unusedSimpArgs false
/-- What the first n symbols' codes tell. -/
def upto (lens : List Nat) (n : Nat) (c l : Nat) : Option Nat := if 1 ≤ l then (List.range n).find? (fun i => decide (lens.getD i 0 = l ∧ code lens i = c)) else none
theorem upto_zero (lens : List Nat) : upto lens 0 = fun _ _ => none := by
  funext c l; unfold upto; split <;> rfl
theorem upto_skip {lens : List Nat} {n : Nat} (h : lens.getD n 0 = 0) : upto lens (n + 1) = upto lens n := by
  funext c l
  unfold upto
  by_cases hl : 1 ≤ l
  · rw [if_pos hl, if_pos hl, List.range_succ, List.find?_append]
    have : [n].find? (fun i => decide (lens.getD i 0 = l ∧ code lens i = c)) = none := by
      rw [List.find?_eq_none]; intro x hx; simp only [List.mem_singleton] at hx; subst hx; simp only [decide_eq_true_eq, not_and]; omega
    rw [this]; simp
  · rw [if_neg hl, if_neg hl]
theorem upto_none {lens : List Nat} {n : Nat} (hn : n < lens.length) (h1 : 1 ≤ lens.getD n 0) (h2 : lens.getD n 0 ≤ 15) : upto lens n (code lens n) (lens.getD n 0) = none := by
  unfold upto
  rw [if_pos h1, List.find?_eq_none]
  intro i hi
  simp only [List.mem_range] at hi
  simp only [decide_eq_true_eq]
  rintro ⟨e1, e2⟩
  have := code_inj (by omega) hn e1 rfl h1 h2 e2
  omega
theorem upto_step {lens : List Nat} {n : Nat} (hn : n < lens.length) (h1 : 1 ≤ lens.getD n 0) (h2 : lens.getD n 0 ≤ 15) : upto lens (n + 1) = fun a b => if a = code lens n ∧ b = lens.getD n 0 then some n else upto lens n a b := by
  funext a b
  by_cases hab : a = code lens n ∧ b = lens.getD n 0
  · obtain ⟨rfl, rfl⟩ := hab
    rw [if_pos ⟨rfl, rfl⟩]
    have h0 := upto_none hn h1 h2
    unfold upto at h0 ⊢
    rw [if_pos h1] at h0 ⊢
    rw [List.range_succ, List.find?_append, h0]
    simp
  · rw [if_neg hab]
    unfold upto
    by_cases hl : 1 ≤ b
    · rw [if_pos hl, if_pos hl, List.range_succ, List.find?_append]
      have : [n].find? (fun i => decide (lens.getD i 0 = b ∧ code lens i = a)) = none := by
        rw [List.find?_eq_none]; intro x hx; simp only [List.mem_singleton] at hx; subst hx; simp only [decide_eq_true_eq]; rintro ⟨e1, e2⟩; exact hab ⟨e2.symm, e1.symm⟩
      rw [this]; simp
    · rw [if_neg hl, if_neg hl]
theorem upto_all (lens : List Nat) {c l : Nat} (hl : 1 ≤ l) : upto lens lens.length c l = find lens l c := by unfold upto find; rw [if_pos hl]
set_option maxRecDepth 100000 in
theorem book_calls (lens : List Nat) (g o n cap : Nat) (w : World) (hl : RowO w g o 3 (i64s lens)) (hn : lens.length = n) (hn2 : n ≤ 1000) (hnc : n ≤ cap) (h15 : ∀ x ∈ lens, x ≤ 15) (hf : Fits lens) :
    Calls Tryd.prog 87 #[.slice (some ⟨g, o, none⟩) n cap] w fun e w' => ∃ m, e = .returned (.map (some m)) ∧ Book w' m (upto lens n) ∧ w.heap.size ≤ m ∧ On w w' := by
  have HN := Lib.hid hn
  have HF := Lib.hid hf
  have H15 := Lib.hid h15
  clear hn hf h15
  have hmm := @run_makeMap Tryd.prog
  go_enter Tryd.func87, Tryd.ntmps87
  go_wp2_with fail
  have O0 := (On.refl w).alloc (.map #[] 0)
  have B0 := Book.new w
  generalize hm : w.heap.size = m at *
  have HM := Lib.hid hm
  have hmg : m ≠ g := by have := hl.lt; omega
  have HMG := Lib.hid hmg
  clear hm hmm hmg
  generalize w.alloc (.map #[] 0) = w0 at *
  refine (icodes_calls lens g o n cap w0 (hl.on O0) HN.out hn2 hnc).mono ?_
  rintro e w1 ⟨ra, ca, rfl, Na, ha1, ha2, O1⟩
  rw [codes_length, HN.out] at Na ⊢
  have Ra := Na.row.1.toO
  have hnca : n ≤ ca := Na.row.2.2.1
  have hlt := B0.lt
  have hma : RowKit.Hid (m ≠ ra) := Lib.hid (by omega)
  have B1 : RowKit.Hid (Book w1 m (upto lens 0)) := Lib.hid (by rw [upto_zero]; exact B0.kp (Kp.of [] O1) (by simp))
  have hl1 := hl.on (O0.call O1)
  clear Na
  go_wp2_with fail
  go_loopw [10] (fun x wr => ∃ (k : Nat), x = .int .i64 (k : Int) ∧ k ≤ n ∧ Book wr m (upto lens k) ∧ Kp [m] w1 wr) (fun x _ => n - (intOf x).toNat)
  case atStart => exact ⟨0, rfl, by omega, B1.out, Kp.refl _ _⟩
  case round =>
    obtain ⟨k, rfl, hk, B, K⟩ := hrel
    by_cases hlt : k < n
    · have hkl : k < lens.length := by rw [HN.out]; exact hlt
      have Rl := hl1.kp K (by simp; have := HMG.out; omega)
      have Rc := Ra.kp K (by simp; have := hma.out; omega)
      have c0 := Rl.cell (i64s_get hkl)
      have c1 := Rc.cell (i64s_get (l := codes lens) (i := k) (by rw [codes_length]; exact hkl))
      rw [codes_getD lens hkl, Nat.zero_add] at c1
      have h15 := getD_le H15.out k
      have hk2 : (k : Int) < n := by omega
      by_cases h0 : lens.getD k 0 = 0
      · have hs := upto_skip h0
        rw [h0] at c0
        have HS := Lib.hid hs
        clear hs h0 h15
        go_wp2_with fail
        go_roundw
        case rel => exact ⟨k + 1, by go_num, by omega, by rw [HS.out]; exact B, K⟩
        case measure => simp [intOf]; omega
      · have h1 : 1 ≤ lens.getD k 0 := by omega
        have hs := upto_step hkl h1 h15
        have hno := upto_none hkl h1 h15
        have hcl := code_lt HF.out hkl h1 h15
        have hp : 2 ^ lens.getD k 0 ≤ 2 ^ 15 := Nat.pow_le_pow_right (by omega) h15
        obtain ⟨w2, hrun, B2, K2⟩ := B.add (k := k) (show code lens k < 100000 by omega) (show lens.getD k 0 < 100000 by omega) hno
        rw [← hs] at B2
        unfold pc at hrun
        have HB2 := Lib.hid B2
        have h1' : (0 : Int) < (lens.getD k 0 : Nat) := by omega
        clear hs hno hcl hp h0 B B2
        generalize lens.getD k 0 = l at *
        generalize code lens k = c at *
        go_wp2_with fail
        go_roundw
        case rel => exact ⟨k + 1, by go_num, by omega, HB2.out, K.then K2⟩
        case measure => simp [intOf]; omega
    · obtain rfl : k = n := by omega
      go_wp2_with fail
      go_ret
      refine ⟨m, rfl, B, Nat.le_of_eq HM.out, ?_⟩
      exact K.on (O0.call O1) (by simp; exact Nat.le_of_eq HM.out)
end Go.Proofs.YtncidljdfipigaaDoor.Wi

/- The program's reader takes a symbol. Conditions: a reader, a book of lengths that are ok. -/
namespace Go.Proofs.YtncidljdfipigaaDoor.Wi
open Go.RowKit Go.Proofs.YtncidljdfipigaaDoor.Mem Go.Proofs.YtncidljdfipigaaDoor.Bt Go.Proofs.YtncidljdfipigaaDoor.Cd Go.Proofs.YtncidljdfipigaaDoor.De
set_option linter.unusedVariables false
set_option linter.unusedSimpArgs false
/-- What a reader that was at p (bad or not) has taken by a plain way of reading, and where it is now. -/
structure Ans {α : Type} (d : Dec α) (s : ByteArray) (p : Nat) (b : Bool) (x : α) (p' : Nat) (b' : Bool) : Prop where mk ::
  bad : b' = true → b = true ∨ d (rest s p) = none
  good : b' = false → b = false ∧ d (rest s p) = some (x, rest s p')
section
variable {α β : Type} {d : Dec α} {k : α → Dec β} {s : ByteArray} {p p1 p2 : Nat} {b b1 b2 : Bool} {x : α} {y : β}
theorem Ans.next (h : Ans d s p b x p1 b1) (h2 : Ans (k x) s p1 b1 y p2 b2) : Ans (next d k) s p b y p2 b2 := by
  refine ⟨fun e => ?_, fun e => ?_⟩
  · cases hb1 : b1 with
    | true => rcases h.bad hb1 with a | a
              · exact .inl a
              · exact .inr (next_none a)
    | false => obtain ⟨a1, a2⟩ := h.good hb1
               rcases h2.bad e with a | a
               · rw [hb1] at a; cases a
               · exact .inr (by rw [next_some a2]; exact a)
  · obtain ⟨c1, c2⟩ := h2.good e
    obtain ⟨a1, a2⟩ := h.good c1
    exact ⟨a1, by rw [next_some a2]; exact c2⟩
/-- It was bad already, or the way of reading fails: it is bad. -/
theorem Ans.out (h : Ans d s p b x p1 true) (d2 : Dec β) (hd : d (rest s p) = none → d2 (rest s p) = none) (y : β) (p2 : Nat) : Ans d2 s p b y p2 true :=
  ⟨fun _ => (h.bad rfl).imp id hd, fun e => by cases e⟩
theorem Ans.ret (x : α) (s : ByteArray) (p : Nat) (b : Bool) : Ans (De.ret x) s p b x p b := ⟨fun e => .inl e, fun e => ⟨e, rfl⟩⟩
theorem Ans.fail (s : ByteArray) (p p' : Nat) (b : Bool) (x : α) : Ans (De.bad : Dec α) s p b x p' true := ⟨fun _ => .inr rfl, fun e => by cases e⟩
theorem Ans.mono (h : Ans d s p b x p1 b1) (e : b = true) : b1 = true := by
  cases hb1 : b1 with
  | true => rfl
  | false => have := (h.good hb1).1; rw [e] at this; cases this
end
theorem ans_num {s : ByteArray} {p n : Nat} {b : Bool} (hp : p ≤ 8 * s.size) : Ans (num n) s p b (numAt s p n) (min (p + n) (8 * s.size)) (b || decide (8 * s.size < p + n)) := by
  refine ⟨fun e => ?_, fun e => ?_⟩
  · simp only [Bool.or_eq_true, decide_eq_true_eq] at e
    rcases e with e | e
    · exact .inl e
    · exact .inr (by unfold num; rw [if_neg (by rw [rest_length]; omega)])
  · simp only [Bool.or_eq_false_iff, decide_eq_false_iff_not] at e
    refine ⟨e.1, ?_⟩
    unfold num
    rw [if_pos (by rw [rest_length]; omega), rest_drop, Nat.min_eq_left (by omega)]; rfl
theorem symGo_step {lens : List Nat} {f l c : Nat} {s : ByteArray} {q : Nat} (h : q < 8 * s.size) : symGo lens (f + 1) l c (rest s q) = match find lens l (2 * c + numAt s q 1) with
    | some k => some (k, rest s (q + 1))
    | none => symGo lens f (l + 1) (2 * c + numAt s q 1) (rest s (q + 1)) := by
  rw [numAt_one h, rest_cons h]
  conv => lhs; unfold symGo
  rw [b1_mod, chars_at s (by omega : q / 8 < s.size)]
  cases find lens l (2 * c + s[q / 8].toNat / 2 ^ (q % 8) % 2) <;> rfl
theorem symGo_end {lens : List Nat} {f l c : Nat} {s : ByteArray} {q : Nat} (h : 8 * s.size ≤ q) : symGo lens f l c (rest s q) = none := by
  rw [rest_end h]
  cases f <;> rfl
set_option maxRecDepth 100000 in
theorem rsym_calls (lens : List Nat) (m g n : Nat) (s : ByteArray) (p : Nat) (b : Bool) (w : World) (hw : IR w g s p b) (hB : Book w m (upto lens n)) (hn : lens.length = n) (hgm : m ≠ g) :
    Calls Tryd.prog 88 #[.pointer (some ⟨g, 0, none⟩), .map (some m)] w fun e w' => ∃ (x p' : Nat) (b' : Bool), e = .returned (.int .i64 (x : Int)) ∧ IR w' g s p' b' ∧ Ans (sym lens) s p b x p' b' ∧ (x = 0 ∨ x < n) ∧ Kp [g] w w' := by
  have HN := Lib.hid hn
  clear hn
  go_enter Tryd.func88, Tryd.ntmps88
  go_wp2_with fail
  go_loopw [5, 6] (fun y x wr => ∃ (l c q : Nat) (b' : Bool), x = .int .i64 (l : Int) ∧ 1 ≤ l ∧ l ≤ 16 ∧ y = .int .i64 (c : Int) ∧ c < 2 ^ (l - 1) ∧ IR wr g s q b' ∧ Kp [g] w wr ∧ (b' = true → b = true ∨ sym lens (rest s p) = none) ∧ (b' = false → b = false ∧ sym lens (rest s p) = symGo lens (16 - l) l c (rest s q))) (fun _ x _ => 16 - (intOf x).toNat)
  case atStart => exact ⟨1, 0, p, b, rfl, by omega, by omega, rfl, by decide, hw, Kp.refl _ _, fun e => .inl e, fun e => ⟨e, rfl⟩⟩
  case round =>
    obtain ⟨l, c, q, b', rfl, hl1, hl, rfl, hc, hr, K, hbad, hgood⟩ := hrel
    by_cases hlt : l ≤ 15
    · have hlt' : (l : Int) ≤ 15 := by omega
      have hp : 2 ^ (l - 1) ≤ 2 ^ 14 := Nat.pow_le_pow_right (by omega) (by omega)
      have hp2 : 2 ^ (l + 1 - 1) = 2 * 2 ^ (l - 1) := by rw [show l + 1 - 1 = (l - 1) + 1 from by omega, Nat.pow_succ, Nat.mul_comm]
      have hx := numAt_lt s q 1
      have HC := Lib.hid (bit_calls g s q b' wr hr)
      have hql := hr.le
      have hB2 := hB.kp K (by simp; exact hgm)
      obtain ⟨x, hxx⟩ : ∃ x, numAt s q 1 = x := ⟨_, rfl⟩
      rw [hxx] at hx
      have HX := Lib.hid hxx
      have e1 : IntKind.i64.wrap (2 * (c : Int)) = 2 * (c : Int) := by rw [IntKind.wrap_i64]; omega
      have e2 : IntKind.i64.wrap (2 * (c : Int) + (x : Int)) = ((2 * c + x : Nat) : Int) := by rw [IntKind.wrap_i64]; omega
      have hbad2 : (b' || decide (8 * s.size < q + 1)) = true → b = true ∨ sym lens (rest s p) = none := fun e => by
        simp only [Bool.or_eq_true, decide_eq_true_eq] at e
        cases hb' : b' with
        | true => exact hbad hb'
        | false =>
          right
          rw [(hgood hb').2]
          exact symGo_end (by rcases e with e | e; · rw [hb'] at e; cases e
                              · omega)
      have hgood2 : (b' || decide (8 * s.size < q + 1)) = false → b = false ∧ sym lens (rest s p) = match find lens l (2 * c + x) with
          | some k => some (k, rest s (min (q + 1) (8 * s.size)))
          | none => symGo lens (16 - (l + 1)) (l + 1) (2 * c + x) (rest s (min (q + 1) (8 * s.size))) := fun e => by
        simp only [Bool.or_eq_false_iff, decide_eq_false_iff_not] at e
        obtain ⟨g1, g2⟩ := hgood e.1
        refine ⟨g1, ?_⟩
        rw [g2, show 16 - l = (16 - (l + 1)) + 1 from by omega, symGo_step (by omega), HX.out, Nat.min_eq_left (by omega)]
      have hf := upto_all lens (c := 2 * c + x) hl1
      rw [HN.out] at hf
      have hc2 : 2 * c + x < 2 * 2 ^ (l - 1) := by omega
      rw [← hp2] at hc2
      obtain ⟨cx, hcx⟩ : ∃ cx, 2 * c + x = cx := ⟨_, rfl⟩
      rw [hcx] at e2 hf hc2 hgood2
      have hcx5 : cx < 100000 := by omega
      clear hbad hgood hxx hcx hp2 hp
      go_wp2_with fail
      refine HC.out.mono ?_
      rintro e w2 ⟨rfl, hr2, K2⟩
      rw [HX.out]
      have hB3 := hB2.kp K2 (by simp; exact hgm)
      have hlk := hB3.find (c := cx) (l := l) hcx5 (by omega)
      rw [hf] at hlk
      have c2 := (hr2.out.cell 2).trans rfl
      generalize hbb : (b' || decide (8 * s.size < q + 1)) = bb at *
      generalize hqq : min (q + 1) (8 * s.size) = qq at *
      have K3 := K.then K2
      unfold pc at hlk
      cases hfi : find lens l cx with
      | none =>
        rw [hfi] at hlk hgood2
        simp only at hlk hgood2
        go_wp2_with fail
        go_roundw
        case rel => exact ⟨l + 1, cx, qq, bb, by go_num, by omega, by omega, rfl, hc2, hr2, K3, hbad2, hgood2⟩
        case measure => simp [intOf]; omega
      | some k =>
        rw [hfi] at hlk hgood2
        simp only at hlk hgood2
        have hkn := (find_some hfi).1
        rw [HN.out] at hkn
        cases bb with
        | true =>
          go_wp2_with fail
          go_roundw
          case rel => exact ⟨l + 1, cx, qq, true, by go_num, by omega, by omega, rfl, hc2, hr2, K3, fun _ => hbad2 trivial, fun e => by cases e⟩
          case measure => simp [intOf]; omega
        | false =>
          go_wp2_with fail
          go_ret
          exact ⟨k, qq, false, rfl, hr2, ⟨fun e => (by cases e), fun _ => hgood2 trivial⟩, .inr hkn, K3⟩
    · obtain rfl : l = 16 := by omega
      have c2 := (hr.out.cell 2).trans rfl
      have fr : ∀ i, wr.frozen? ⟨g, i, none⟩ = false := hr.out.frozen
      go_wp2_with fail
      go_ret
      refine ⟨0, q, true, rfl, ⟨?_, hr.le, hr.sz⟩, ⟨fun _ => ?_, fun e => by cases e⟩, .inl rfl, K.set (.inl (by simp)) _⟩
      · exact hr.out.set 2 (.bool true)
      · cases hb' : b' with
        | true => exact hbad hb'
        | false => exact .inr (hgood hb').2
end Go.Proofs.YtncidljdfipigaaDoor.Wi

/- A symbol's code as it is written, in both programs. Conditions: the code fits its length; sizes. -/
namespace Go.Proofs.YtncidljdfipigaaDoor.Wi
open Go.RowKit Go.Proofs.YtncidljdfipigaaDoor.Mem Go.Proofs.YtncidljdfipigaaDoor.Bt Go.Proofs.YtncidljdfipigaaDoor.Cd
set_option linter.unusedVariables false
set_option linter.unusedSimpArgs false
/-- A number of so many bits, turned. -/
def turn (num n : Nat) : Nat := val (bitsOf num n).reverse
theorem turn_succ (num n : Nat) : turn num (n + 1) = 2 * turn num n + num / 2 ^ n % 2 := by
  unfold turn
  rw [bits_snoc, List.reverse_append]
  simp only [List.reverse_cons, List.reverse_nil, List.nil_append, List.singleton_append, val, b1_mod]
  omega
theorem turn_bits (num n : Nat) : bitsOf (turn num n) n = (bitsOf num n).reverse := by
  have := bits_val (bitsOf num n).reverse
  rw [List.length_reverse, bits_length] at this
  exact this
theorem turn_lt (num n : Nat) : turn num n < 2 ^ n := by
  have := val_lt (bitsOf num n).reverse
  rw [List.length_reverse, bits_length] at this
  exact this
theorem turn_small {num n : Nat} (h : n ≤ 16) : turn num n < 65537 := by
  have := turn_lt num n
  have := pow_le h
  omega
set_option maxRecDepth 100000 in
theorem piece_calls (num n : Nat) (hn : n ≤ 16) (hnum : num < 2 ^ n) (w : World) : Calls Tryd.prog 132 #[.agg #[.int .i64 num, .int .i64 n]] w (Tells w (.bool true)) := by
  have h2 := pow_le hn
  have h3 : IntKind.i64.wrap ((2 : Int) ^ n) = ((2 ^ n : Nat) : Int) := by
    rw [show (2 : Int) ^ n = ((2 ^ n : Nat) : Int) from by simp, IntKind.wrap_i64]; omega
  have h4 : IntKind.i64.wrap (((2 ^ n : Nat) : Int) - 1) = ((2 ^ n : Nat) : Int) - 1 := by rw [IntKind.wrap_i64]; omega
  have h5 : (n : Int) < 64 := by omega
  generalize 2 ^ n = P at *
  have y1 : (0 : Int) ≤ num := by omega
  have y2 : (num : Int) ≤ (P : Int) - 1 := by omega
  have y3 : (0 : Int) ≤ n := by omega
  have y4 : (n : Int) ≤ 16 := by omega
  go_enter Tryd.func132, Tryd.ntmps132
  go_wp2_with fail
  go_quiet ((go_at_call 97; exact Calls.quiet_of_same (within_yes _ (by omega) (by omega))))
  go_wp2_with fail
  go_ret
  exact ⟨rfl, ((On.refl w).alloc _).drewN _⟩
set_option maxRecDepth 100000 in
theorem turn_calls (num n : Nat) (hn : n ≤ 16) (hnum : num < 2 ^ n) (w : World) : Calls Tryd.prog 99 #[.int .i64 num, .int .i64 n] w (Tells w (.int .i64 (turn num n : Nat))) := by
  have hnum2 : num < 9223372036854775808 := by have := pow_le hn; omega
  have hp := fun w => piece_calls num n hn hnum w
  have HPC := Lib.hid hp
  clear hp
  go_enter Tryd.func99, Tryd.ntmps99
  go_wp2_with fail
  refine (HPC.out w).mono ?_
  rintro e w1 ⟨rfl, O1⟩
  go_wp2_with fail
  go_loop [5, 13] (fun a x => ∃ k : Nat, k ≤ n ∧ x = .int .i64 (k : Int) ∧ a = .int .i64 (turn num k : Nat)) (fun _ x => n - (intOf x).toNat)
  case atStart => exact ⟨0, by omega, rfl, rfl⟩
  case round =>
    obtain ⟨k, hk, rfl, rfl⟩ := hrel
    by_cases hlt : k < n
    · have f0 := bit_and num k hnum2
      have f1 : num / 2 ^ k % 2 < 2 := Nat.mod_lt _ (by omega)
      have f2 := turn_succ num k
      have f3 := turn_small (num := num) (show k ≤ 16 by omega)
      have f4 : (k : Int) < 64 := by omega
      generalize turn num k = T at *
      generalize num / 2 ^ k % 2 = b at *
      have F2 := Lib.hid f2
      clear f2
      go_wp2_with fail
      go_round
      case rel => exact ⟨k + 1, by omega, by go_num, by rw [F2.out]; go_num⟩
      case measure => simp [intOf]; omega
    · obtain rfl : k = n := by omega
      go_wp2_with fail
      go_ret
      exact ⟨rfl, O1⟩
set_option maxRecDepth 100000 in
theorem sturn_same (num n : Nat) (hn : n ≤ 16) (hnum : num < 9223372036854775808) (w : World) : Calls Tryd.prog 156 #[.int .i64 num, .int .i64 n] w (fun e w' => e = .returned (.int .i64 (turn num n : Nat)) ∧ w' = w) := by
  go_enter Tryd.func156, Tryd.ntmps156
  go_wp2_with fail
  go_loop [0, 5, 6] (fun y a x => ∃ (k nk T : Nat), k ≤ n ∧ x = .int .i64 (k : Int) ∧ RowKit.Hid (T = turn num k) ∧ RowKit.Hid (nk = num / 2 ^ k) ∧ nk ≤ num ∧ T < 65537 ∧ a = .int .i64 (T : Int) ∧ y = .int .i64 (nk : Int)) (fun _ _ x => n - (intOf x).toNat)
  case atStart => exact ⟨0, num, 0, by omega, rfl, Lib.hid rfl, Lib.hid (by simp), Nat.le_refl _, by omega, rfl, rfl⟩
  case round =>
    obtain ⟨k, nk, T, hk, rfl, hT, hnk, hle, hT2, rfl, rfl⟩ := hrel
    by_cases hlt : k < n
    · have f1 : nk % 2 < 2 := Nat.mod_lt _ (by omega)
      have f2 := turn_succ num k
      rw [← hT.out, ← hnk.out] at f2
      have F2 := Lib.hid f2
      have f4 : nk / 2 = num / 2 ^ (k + 1) := by rw [Nat.pow_succ, ← Nat.div_div_eq_div_mul, ← hnk.out]
      have F4 := Lib.hid f4
      have f5 := turn_small (num := num) (show k + 1 ≤ 16 by omega)
      rw [f2] at f5
      clear f2 f4
      go_wp2_with fail
      go_round
      case rel => exact ⟨k + 1, nk / 2, 2 * T + nk % 2, by omega, by go_num, Lib.hid F2.out.symm, F4, by omega, f5, by go_num, by go_num⟩
      case measure => simp [intOf]; omega
    · obtain rfl : k = n := by omega
      go_wp2_with fail
      go_ret
      exact ⟨ret_i (by rw [hT.out]), rfl⟩
theorem IW.kp {S : List Nat} {w w' : World} {g r : Nat} {bs : List Bool} (h : IW w g r bs) (k : Kp S w w') (hg : g ∉ S) (hr : r ∉ S) : IW w' g r bs := by
  obtain ⟨v, hb, hy, ho⟩ := h.out
  exact ⟨v, k.blk hb hg, hy.kp k hr, ho⟩
theorem IW.on {w w' : World} {g r : Nat} {bs : List Bool} (h : IW w g r bs) (O : On w w') : IW w' g r bs := h.kp (Kp.of [] O) (by simp) (by simp)
theorem SW.kp {S : List Nat} {w w' : World} {g r : Nat} {bs : List Bool} (h : SW w g r bs) (k : Kp S w w') (hg : g ∉ S) (hr : r ∉ S) : SW w' g r bs := by
  obtain ⟨v, hb, hy, ho⟩ := h.out
  exact ⟨v, k.blk hb hg, hy.kp k hr, ho⟩
theorem SW.on {w w' : World} {g r : Nat} {bs : List Bool} (h : SW w g r bs) (O : On w w') : SW w' g r bs := h.kp (Kp.of [] O) (by simp) (by simp)
theorem mv_on {w w' : World} (g r : Nat) (O : On w w') : Mv g r w r w' := mv_kp (Kp.of _ O)
set_option maxRecDepth 100000 in
set_option maxHeartbeats 1000000 in
theorem code_calls (g r : Nat) (bs : List Bool) (lens : List Nat) (gl ol nl cl ga na ca s : Nat) (w : World) (hw : IW w g r bs) (hb : bs.length ≤ 90000000)
    (hl : RowO w gl ol 3 (i64s lens)) (ha : RowO w ga 0 3 (i64s (codes lens))) (hnl : lens.length = nl) (hna : na = nl) (hs : s < lens.length) (h16 : lens.getD s 0 ≤ 15) (hc : code lens s < 2 ^ lens.getD s 0)
    (fl : gl ∉ [g, r]) (fa : ga ∉ [g, r]) :
    Calls Tryd.prog 67 #[.pointer (some ⟨g, 0, none⟩), .slice (some ⟨gl, ol, none⟩) nl cl, .slice (some ⟨ga, 0, none⟩) na ca, .int .i64 s] w fun e w' => ∃ r', e = .returned (.tuple #[]) ∧ IW w' g r' (bs ++ enc lens s) ∧ Mv g r w r' w' := by
  subst hna
  have c0 : w.cell? ⟨ga, s, none⟩ = some (.int .i64 (code lens s : Nat)) := by
    have := ha.cell (i64s_get (show s < (codes lens).length by rw [codes_length]; exact hs))
    rw [codes_getD _ hs, Nat.zero_add] at this
    exact this
  have c1 : w.cell? ⟨gl, ol + s, none⟩ = some (.int .i64 (lens.getD s 0 : Nat)) := hl.cell (i64s_get hs)
  have hs1 : (s : Int) < na := by omega
  have hs0 : (0 : Int) ≤ s := by omega
  have ht := fun w => turn_calls (code lens s) (lens.getD s 0) (by omega) hc w
  have hp := fun r w hw => put_calls g r bs (turn (code lens s) (lens.getD s 0)) (lens.getD s 0) w hw (by omega) (by omega) (by have := turn_small (num := code lens s) (show lens.getD s 0 ≤ 16 by omega); omega)
  have he : enc lens s = bitsOf (turn (code lens s) (lens.getD s 0)) (lens.getD s 0) := by rw [turn_bits]; rfl
  rw [← he] at hp
  have HT := Lib.hid ht
  have HP := Lib.hid hp
  clear ht hp he hl ha hnl hs h16 hc
  generalize turn (code lens s) (lens.getD s 0) = T at *
  generalize code lens s = c at *
  generalize lens.getD s 0 = l at *
  have O0 := (On.refl w).drew
  have HW := Lib.hid hw
  have FA := Lib.hid fa
  have FL := Lib.hid fl
  clear hw fa fl
  go_enter Tryd.func67, Tryd.ntmps67
  go_wp2_with fail
  go_region_held3 (fun w' => w'.cell? ⟨ga, s, none⟩ = some (.int .i64 (c : Int)) ∧ w'.cell? ⟨gl, ol + s, none⟩ = some (.int .i64 (l : Int)))
    (first | go_keep | exact ⟨x0, x1⟩ | exact ⟨y0, y1⟩)
    (first
      | (go_at_call 99; refine (HT.out _).mono ?_; rintro e w1 ⟨rfl, O1⟩; have x0 : w1.cell? ⟨ga, s, none⟩ = some (.int .i64 (c : Int)) := ((O0.call O1).cell (World.block_lt_of_cell? w _ c0)).trans c0; have x1 : w1.cell? ⟨gl, ol + s, none⟩ = some (.int .i64 (l : Int)) := ((O0.call O1).cell (World.block_lt_of_cell? w _ c1)).trans c1)
      | (go_at_call 48; refine (HP.out r _ (HW.out.on (O0.call O1))).mono ?_; rintro e w2 ⟨r2, rfl, hw2, M2⟩; have y0 : w2.cell? ⟨ga, s, none⟩ = some (.int .i64 (c : Int)) := (M2.kp.cell (World.block_lt_of_cell? w1 _ x0) FA.out).trans x0; have y1 : w2.cell? ⟨gl, ol + s, none⟩ = some (.int .i64 (l : Int)) := (M2.kp.cell (World.block_lt_of_cell? w1 _ x1) FL.out).trans x1))
  go_wp2_with fail
  go_end0
  exact ⟨r2, rfl, hw2, (mv_on g r (O0.call O1)).trans M2⟩
set_option maxRecDepth 100000 in
theorem spiece_calls (lens : List Nat) (gl ol nl cl ga na ca s : Nat) (w : World)
    (hl : RowO w gl ol 3 (i64s lens)) (ha : RowO w ga 0 3 (i64s (codes lens))) (hnl : lens.length = nl) (hna : na = nl) (hs : s < lens.length) (h16 : lens.getD s 0 ≤ 15) (hc : code lens s < 2 ^ lens.getD s 0) :
    Calls Tryd.prog 149 #[.slice (some ⟨gl, ol, none⟩) nl cl, .slice (some ⟨ga, 0, none⟩) na ca, .int .i64 s] w fun e w' => e = .returned (.agg #[.int .i64 (turn (code lens s) (lens.getD s 0) : Nat), .int .i64 (lens.getD s 0 : Nat)]) ∧ On w w' := by
  subst hna
  have c0 : w.cell? ⟨ga, s, none⟩ = some (.int .i64 (code lens s : Nat)) := by
    have := ha.cell (i64s_get (show s < (codes lens).length by rw [codes_length]; exact hs))
    rw [codes_getD _ hs, Nat.zero_add] at this
    exact this
  have c1 : w.cell? ⟨gl, ol + s, none⟩ = some (.int .i64 (lens.getD s 0 : Nat)) := hl.cell (i64s_get hs)
  have hs1 : (s : Int) < na := by omega
  have hs0 : (0 : Int) ≤ s := by omega
  have hp := pow_le (show lens.getD s 0 ≤ 16 by omega)
  have ht := fun w => sturn_same (code lens s) (lens.getD s 0) (by omega) (by omega) w
  have HT := Lib.hid ht
  have B0 := World.block_lt_of_cell? w _ c0
  have B1 := World.block_lt_of_cell? w _ c1
  clear ht hl ha hnl hs h16 hc hp
  generalize turn (code lens s) (lens.getD s 0) = T at *
  generalize code lens s = c at *
  generalize lens.getD s 0 = l at *
  go_enter Tryd.func149, Tryd.ntmps149
  go_wp2_with fail
  have d0 : (w.alloc (.cells #[.int .i64 0, .int .i64 0] 117)).cell? ⟨ga, s, none⟩ = some (.int .i64 (c : Int)) := (((On.refl w).alloc _).cell B0).trans c0
  have d1 : (w.alloc (.cells #[.int .i64 0, .int .i64 0] 117)).cell? ⟨gl, ol + s, none⟩ = some (.int .i64 (l : Int)) := (((On.refl w).alloc _).cell B1).trans c1
  have BB := Blk.new w 117 #[.int .i64 0, .int .i64 0]
  have OO := (On.refl w).alloc (.cells #[.int .i64 0, .int .i64 0] 117)
  generalize hB : w.heap.size = B at *
  have HB := Lib.hid hB
  clear hB
  generalize w.alloc (.cells #[.int .i64 0, .int .i64 0] 117) = W at *
  go_still_tail 13, (by kernel_rfl)
  still_call (HT.out _)
  repeat still_step
  refine wpStill_nil ?_
  change wpList _ _ _ _ _ W.drew
  have BD := BB.drew
  have OD := OO.drew
  have hbs : w.heap.size ≤ B := by rw [HB.out]; exact Nat.le_refl _
  clear d0 d1 BB OO
  generalize W.drew = W2 at *
  have e0 : W2.cell? ⟨B, 0, none⟩ = some (.int .i64 0) := (BD.cell 0).trans rfl
  have e1 : W2.cell? ⟨B, 1, none⟩ = some (.int .i64 0) := (BD.cell 1).trans rfl
  have ef : ∀ i, W2.frozen? ⟨B, i, none⟩ = false := BD.frozen
  go_wp2_with fail
  have BF := (BD.set 0 (.int .i64 (T : Int))).set 1 (.int .i64 (l : Int))
  exact bodyPost_ret (v := .agg #[.int .i64 (T : Int), .int .i64 (l : Int)]) (by exact res_c (fn := Tryd.f149) (p := 6) rfl BF rfl Tryd.underlying117 rfl (by kernel_rfl)) rfl ⟨rfl, (OD.set hbs _).set hbs _⟩
set_option maxRecDepth 100000 in
theorem sym_calls (g r : Nat) (bs : List Bool) (lens : List Nat) (gl ol nl cl ga na ca s : Nat) (w : World) (hw : SW w g r bs) (hb : bs.length ≤ 90000000)
    (hl : RowO w gl ol 3 (i64s lens)) (ha : RowO w ga 0 3 (i64s (codes lens))) (hnl : lens.length = nl) (hna : na = nl) (hs : s < lens.length) (h16 : lens.getD s 0 ≤ 15) (hc : code lens s < 2 ^ lens.getD s 0) :
    Calls Tryd.prog 130 #[.pointer (some ⟨g, 0, none⟩), .slice (some ⟨gl, ol, none⟩) nl cl, .slice (some ⟨ga, 0, none⟩) na ca, .int .i64 s] w fun e w' => ∃ r', e = .returned (.tuple #[]) ∧ SW w' g r' (bs ++ enc lens s) ∧ Mv g r w r' w' := by
  subst hna
  have hp := fun r w hw => sput_calls g r bs (turn (code lens s) (lens.getD s 0)) (lens.getD s 0) w hw (by omega) (by omega) (by have := turn_small (num := code lens s) (show lens.getD s 0 ≤ 16 by omega); omega)
  have he : enc lens s = bitsOf (turn (code lens s) (lens.getD s 0)) (lens.getD s 0) := by rw [turn_bits]; rfl
  rw [← he] at hp
  have HP := Lib.hid hp
  have hpc := spiece_calls lens gl ol na cl ga na ca s w hl ha hnl rfl hs h16 hc
  have HPC := Lib.hid hpc
  clear hp he hl ha hnl hs h16 hc hpc
  generalize turn (code lens s) (lens.getD s 0) = T at *
  generalize lens.getD s 0 = l at *
  have HW := Lib.hid hw
  clear hw
  go_enter Tryd.func130, Tryd.ntmps130
  go_wp2_with fail
  refine HPC.out.mono ?_
  rintro e w1 ⟨rfl, O1⟩
  go_wp2_with fail
  refine (HP.out r _ (HW.out.on (O1.alloc _))).mono ?_
  rintro e w2 ⟨r2, rfl, hw2, M2⟩
  go_wp2_with fail
  go_end0
  exact ⟨r2, rfl, hw2, (mv_on g r (O1.alloc _)).trans M2⟩
end Go.Proofs.YtncidljdfipigaaDoor.Wi

/- The symbols of lengths and distances, in both programs: their least numbers, their bits, which one a number has. -/
namespace Go.Proofs.YtncidljdfipigaaDoor.Wi
open Go.RowKit Go.Proofs.YtncidljdfipigaaDoor.Mem Go.Proofs.YtncidljdfipigaaDoor.Bt Go.Proofs.YtncidljdfipigaaDoor.Cd Go.Proofs.YtncidljdfipigaaDoor.De Go.Proofs.YtncidljdfipigaaDoor.En
set_option linter.unusedVariables false
set_option linter.unusedSimpArgs false
/-- A row of numbers after an append. -/
theorem nums_app {wr w1 : World} {r : Nat} {v v' : Value} {l : List Nat} {x : Nat} (h : Nums wr r v l)
    (hown : w1.ownsRow 0 3 1 v' (l.length + 1) (i64s l ++ (#[.int .i64 (x : Int)] : Array Value).toList)) (hg : wr.grownBy w1 v.ownBlock) (hne : v' ≠ .slice none 0 0) (hat : ∀ k, v'.ownBlock = some k → v.ownBlock = some k ∨ wr.heap.size ≤ k) :
    ∃ r2 cap, v' = .slice (some ⟨r2, 0, none⟩) (l.length + 1) cap ∧ Nums w1 r2 v' (l ++ [x]) ∧ (r2 = r ∨ wr.heap.size ≤ r2) ∧ r2 < w1.heap.size ∧ Kp [r] wr w1 ∧ l.length + 1 ≤ cap ∧ cap ≤ maxLen := by
  have e : i64s l ++ (#[.int .i64 (x : Int)] : Array Value).toList = i64s (l ++ [x]) := by unfold i64s; rw [List.map_append]; rfl
  rw [e] at hown
  rcases hown.2 with ⟨h0, _⟩ | ⟨k, cap, cur, hv, _, hh, h1, h2, h3, h4⟩
  · exact absurd h0 hne
  · have hb : v'.ownBlock = some k := by rw [hv]; rfl
    have hk : k = r ∨ wr.heap.size ≤ k := by
      rcases hat k hb with a | a
      · exact .inl (h.at_ k a)
      · exact .inr a
    refine ⟨k, cap, hv, ⟨by simpa using hown, fun j hj => by rw [hb] at hj; cases hj; rfl⟩, hk, ?_, ?_, h1, h2⟩
    · rcases Nat.lt_or_ge k w1.heap.size with hl | hl
      · exact hl
      · rw [Array.getElem?_eq_none hl] at hh; cases hh
    · exact Kp.grown hg (fun j hj => by rw [h.at_ j hj]; simp)
/-- l = append(l, x): one number more. -/
theorem wpList_nat {ops : Array Oper} {rest : List Oper} {o : Oper} {act : Act} {Q : Exit → Act → World → Prop} {wr : World} (hgd : o.guard = none) (s y : Operand)
    (ho : o.op = .call { callee := .builtin .append, args := #[s, y], argTypes := #[58, 58] })
    {r : Nat} {v : Value} {l : List Nat} {x : Nat} (hs : act.eval s = v) (hby : Nums wr r v l) (hx : act.eval y = .slice (some ⟨wr.heap.size, 0, none⟩) 1 1) (hl : l.length ≤ 1000000)
    (h : ∀ r2 cap w1, Nums w1 r2 (.slice (some ⟨r2, 0, none⟩) (l.length + 1) cap) (l ++ [x]) → (r2 = r ∨ wr.heap.size ≤ r2) → r2 < w1.heap.size → Kp [r] wr w1 → l.length + 1 ≤ cap → cap ≤ maxLen →
      wpList Tryd.prog ops Q rest (act.put o.dst (.slice (some ⟨r2, 0, none⟩) (l.length + 1) cap)) w1) :
    wpList Tryd.prog ops Q (o :: rest) act (wr.alloc (.cells #[.int .i64 (x : Int)] 3)) := by
  obtain ⟨i0, hi, hz0, hz1, hz2⟩ := info_parts i64info
  refine wpList_app_at hgd s y 58 ho i0 (.int .i64 0) 8 1 Tryd.underlying58 hi hz0 hz1 hz2 rfl (by decide) rfl v _ _ hs hby.own hx (by simp [Value.oneCell']) (by unfold maxLen; omega) (by omega) ?_
  intro v' w1 hown' hg' hne' hat'
  obtain ⟨r2, cap2, rfl, hby2, hr2, hrl2, K2, hc1, hc2⟩ := nums_app hby hown' hg' hne' hat'
  exact h r2 cap2 w1 hby2 hr2 hrl2 K2 hc1 hc2
theorem Nums.nil (w : World) (r : Nat) : Nums w r (.slice none 0 0) [] := ⟨World.ownsRow_nil _ _ _ _, fun g hg => by simp [Value.ownBlock] at hg⟩
theorem Nums.new (w : World) (cs : Array Value) (l : List Nat) (h : cs.toList = i64s l) (hl : l.length ≤ 1000000) : Nums (w.alloc (.cells cs 3)) w.heap.size (.slice (some ⟨w.heap.size, 0, none⟩) l.length l.length) l := by
  have hs : cs.size = l.length := by rw [← Array.length_toList, h, i64s_length]
  refine ⟨?_, fun g hg => by simp [Value.ownBlock] at hg; exact hg.symm⟩
  have := World.ownsRow_lit w (base := 0) (e := 3) (size := 1) cs l.length (Nat.zero_le _) (by unfold maxLen; omega) (by rw [hs]; omega)
  rw [h] at this
  exact this
theorem base_snoc : ∀ (l : List Nat) (n x : Nat), base n (l ++ [x]) = base n l ++ [n + ((l.map fun b => 2 ^ b).sum)]
  | [], n, x => by simp [base]
  | b :: l, n, x => by
    rw [List.cons_append, base, base_snoc l, base, List.cons_append, List.map_cons, List.sum_cons]
    congr 3; omega
theorem base_length : ∀ (l : List Nat) (n : Nat), (base n l).length = l.length
  | [], _ => rfl
  | b :: l, n => by rw [base, List.length_cons, base_length l, List.length_cons]
theorem sum_take_succ (l : List Nat) {k : Nat} (h : k < l.length) : (((l.take (k + 1)).map fun b => 2 ^ b).sum) = (((l.take k).map fun b => 2 ^ b).sum) + 2 ^ l.getD k 0 := by
  rw [List.take_succ_eq_append_getElem h, List.map_append, List.sum_append_nat, List.getD_eq_getElem?_getD, List.getElem?_eq_getElem h]; simp
theorem sum_take_le (l : List Nat) (h : ∀ x ∈ l, x ≤ 13) : ∀ k, (((l.take k).map fun b => 2 ^ b).sum) ≤ 8192 * k
  | 0 => by simp
  | k + 1 => by
    have ih := sum_take_le l h k
    by_cases hk : k < l.length
    · rw [sum_take_succ l hk]
      have := pow_le (getD_le h k)
      omega
    · rw [List.take_of_length_le (by omega)]
      rw [List.take_of_length_le (by omega)] at ih
      omega
theorem base_take (l : List Nat) (n : Nat) {k : Nat} (h : k < l.length) : base n (l.take (k + 1)) = base n (l.take k) ++ [n + (((l.take k).map fun b => 2 ^ b).sum)] := by
  rw [List.take_succ_eq_append_getElem h, base_snoc]
set_option maxRecDepth 100000 in
set_option maxHeartbeats 1000000 in
theorem sbase_calls (l : List Nat) (g o n cap from_ : Nat) (w : World) (hR : RowO w g o 3 (i64s l)) (hl : l.length = n) (hn : n ≤ 1000) (hc : n ≤ cap) (h13 : ∀ x ∈ l, x ≤ 13) (hf : from_ ≤ 10) :
    Calls Tryd.prog 121 #[.slice (some ⟨g, o, none⟩) n cap, .int .i64 from_] w (GivesI w (base from_ l)) := by
  have HL := Lib.hid hl
  have H13 := Lib.hid h13
  clear hl h13
  have hg1 := hR.lt
  go_enter Tryd.func121, Tryd.ntmps121
  go_wp2_with fail
  have N0 := Nums.new w #[] [] rfl (by simp)
  have O0 := (On.refl w).alloc (.cells #[] 3)
  go_loopw [1, 5, 6] (fun f v x wr => ∃ (k r c : Nat), x = .int .i64 (k : Int) ∧ k ≤ n ∧ f = .int .i64 ((from_ + (((l.take k).map fun b => 2 ^ b).sum) : Nat) : Int) ∧ v = .slice (some ⟨r, 0, none⟩) k c ∧ Nums wr r (.slice (some ⟨r, 0, none⟩) k c) (base from_ (l.take k)) ∧ w.heap.size ≤ r ∧ r < wr.heap.size ∧ On w wr) (fun _ _ x _ => n - (intOf x).toNat)
  case atStart => exact ⟨0, w.heap.size, 0, rfl, by omega, rfl, rfl, N0, Nat.le_refl _, (Blk.new w _ _).lt, O0⟩
  case round =>
    obtain ⟨k, r, c, rfl, hk, rfl, rfl, hN, hrb, hrl, O⟩ := hrel
    by_cases hlt : k < n
    · have hkl : k < l.length := by rw [HL.out]; exact hlt
      have hsum := sum_take_le l H13.out k
      have hst := sum_take_succ l hkl
      have hbt := base_take l from_ hkl
      have hlen : (base from_ (l.take k)).length = k := by rw [base_length, List.length_take]; omega
      have hb13 := getD_le H13.out k
      have hpw := pow_le hb13
      have c0 : wr.cell? ⟨g, o + k, none⟩ = some (.int .i64 (l.getD k 0 : Nat)) := (hR.on O).cell (i64s_get hkl)
      obtain ⟨P, hP⟩ : ∃ P, 2 ^ l.getD k 0 = P := ⟨_, rfl⟩
      have hpc := fun w => pow_same (l.getD k 0) P (Lib.hid hP) (by omega) w
      rw [hP] at hst hpw
      have HPC := Lib.hid hpc
      clear hP hpc
      generalize l.getD k 0 = b at *
      generalize hs : ((l.take k).map fun b => 2 ^ b).sum = s at *
      have hfs : from_ + s + P = from_ + (s + P) := by omega
      have hfs2 : from_ + s ≤ 9000000 := by omega
      generalize hfv : from_ + s = fs at *
      have HFS := Lib.hid hfs
      have HSS := Lib.hid hs
      have HFV := Lib.hid hfv
      clear hs hfv hfs
      have HST := Lib.hid hst
      have HBT := Lib.hid hbt
      have HLEN := Lib.hid hlen
      have hl2 : (base from_ (l.take k)).length ≤ 1000000 := by omega
      clear hst hbt hlen
      have hgr : g ≠ r := by omega
      have HGR := Lib.hid hgr
      clear hgr
      have hN0 := hN
      go_wp2_with (at_builtin; go_must (refine wpList_nat (x := fs) rfl _ _ rfl rfl hN rfl hl2 ?_); intro r2 c2 w1 hN1 hr2 hrl2 K2 hc1 hc2; have d0 : w1.cell? ⟨g, o + k, none⟩ = some (.int .i64 (b : Int)) := (K2.cell (World.block_lt_of_cell? wr _ c0) (by simpa using HGR.out)).trans c0; clear c0)
      refine (HPC.out _).mono ?_
      rintro e w2 ⟨rfl, hw⟩
      obtain rfl : w1 = w2 := hw.symm
      go_wp2_with fail
      rw [HLEN.out] at hN1
      have O1 : On w w1 := K2.on O (fun x hx => by simp at hx; omega)
      rw [← HBT.out] at hN1
      refine ⟨⟨k + 1, r2, c2, by go_num, by omega, by rw [HST.out, ← HFS.out]; go_num, by rw [HLEN.out], hN1, by have := O.size; omega, hrl2, O1⟩, by simp [intOf]; omega⟩
    · obtain rfl : k = n := by omega
      have hlen : (base from_ l).length = k := by rw [base_length, HL.out]
      have ht : l.take k = l := List.take_of_length_le (by rw [HL.out]; exact Nat.le_refl _)
      rw [ht] at hN
      have HLEN := Lib.hid hlen
      clear hlen ht
      go_wp2_with fail
      go_ret
      exact ⟨r, c, by rw [HLEN.out]; rfl, by rw [HLEN.out]; exact hN, hrb, hrl, O⟩
set_option maxRecDepth 100000 in
theorem slong_calls (w : World) : Calls Tryd.prog 122 #[] w (GivesI w longBits) := by
  go_enter Tryd.func122, Tryd.ntmps122
  go_wp2_with fail
  go_ret
  exact ⟨w.heap.size, 28, rfl, Nums.new w _ longBits rfl (by decide), Nat.le_refl _, (Blk.new w _ _).lt, (On.refl w).alloc _⟩
set_option maxRecDepth 100000 in
theorem sback_calls (w : World) : Calls Tryd.prog 123 #[] w (GivesI w backBits) := by
  go_enter Tryd.func123, Tryd.ntmps123
  go_wp2_with fail
  go_ret
  exact ⟨w.heap.size, 30, rfl, Nums.new w _ backBits rfl (by decide), Nat.le_refl _, (Blk.new w _ _).lt, (On.refl w).alloc _⟩
/-- The symbol of a number: the last whose least number is not above it. -/
structure IsSym (b : List Nat) (n k : Nat) : Prop where
  lt : k < b.length
  le : b.getD k 0 ≤ n
  next : ∀ j, k < j → j < b.length → n < b.getD j 0
def Rising (b : List Nat) : Prop := b.Pairwise (· < ·)
theorem rising_lt {b : List Nat} (h : Rising b) {i j : Nat} (hij : i < j) (hj : j < b.length) : b.getD i 0 < b.getD j 0 := by
  have := (List.pairwise_iff_getElem.1 h) i j (by omega) hj hij
  rw [List.getD_eq_getElem?_getD, List.getD_eq_getElem?_getD, List.getElem?_eq_getElem hj, List.getElem?_eq_getElem (show i < b.length by omega)]
  exact this
theorem lad_is {b : List Nat} {n k : Nat} (h : Rising b) (H : IsSym b n k) : lad b n = k := by
  have e : b.filter (fun x => decide (x ≤ n)) = b.take (k + 1) := by
    conv => lhs; rw [← List.take_append_drop (k + 1) b, List.filter_append]
    have h1 : (b.take (k + 1)).filter (fun x => decide (x ≤ n)) = b.take (k + 1) := by
      rw [List.filter_eq_self]
      intro x hx
      obtain ⟨i, hi, rfl⟩ := List.mem_iff_getElem.1 hx
      rw [List.length_take] at hi
      rw [List.getElem_take]
      have h2 : b.getD i 0 = b[i] := by rw [List.getD_eq_getElem?_getD, List.getElem?_eq_getElem (by omega)]; rfl
      rw [← h2, decide_eq_true_iff]
      by_cases e : i = k
      · rw [e]; exact H.le
      · have := rising_lt h (show i < k by omega) H.lt
        have := H.le
        omega
    have h2 : (b.drop (k + 1)).filter (fun x => decide (x ≤ n)) = [] := by
      rw [List.filter_eq_nil_iff]
      intro x hx
      obtain ⟨i, hi, rfl⟩ := List.mem_iff_getElem.1 hx
      rw [List.length_drop] at hi
      rw [List.getElem_drop]
      have h2 : b.getD (k + 1 + i) 0 = b[k + 1 + i] := by rw [List.getD_eq_getElem?_getD, List.getElem?_eq_getElem (by omega)]; rfl
      rw [← h2, decide_eq_true_iff]
      have := H.next (k + 1 + i) (by omega) (by omega)
      omega
    rw [h1, h2, List.append_nil]
  unfold lad
  rw [e, List.length_take]
  have := H.lt
  omega
theorem long_rising : Rising longBase := by unfold Rising; decide +kernel
theorem back_rising : Rising backBase := by unfold Rising; decide +kernel
set_option maxRecDepth 100000 in
set_option maxHeartbeats 1000000 in
theorem ssym_calls (b : List Nat) (g n cap m : Nat) (w : World) (hR : RowO w g 0 3 (i64s b)) (hl : b.length = n) (hn : n ≤ 1000) (hc : n ≤ cap) (h0 : 1 ≤ n) (hm : b.getD 0 0 ≤ m) (hr : Rising b) (hm2 : m ≤ 100000) :
    Calls Tryd.prog 124 #[.slice (some ⟨g, 0, none⟩) n cap, .int .i64 m] w (Tells w (.int .i64 (lad b m : Nat))) := by
  have HL := Lib.hid hl
  have HR := Lib.hid hr
  have H0 := Lib.hid hm
  clear hl hr hm
  go_enter Tryd.func124, Tryd.ntmps124
  go_wp2_with fail
  go_loopw [5] (fun x wr => ∃ k : Nat, x = .int .i64 (k : Int) ∧ k < n ∧ RowKit.Hid (b.getD k 0 ≤ m) ∧ On w wr) (fun x _ => n - (intOf x).toNat)
  case atStart => exact ⟨0, rfl, h0, H0, On.refl _⟩
  case round =>
    obtain ⟨k, rfl, hk, hle, O⟩ := hrel
    by_cases hlt : k + 1 < n
    · have c0 : wr.cell? ⟨g, k + 1, none⟩ = some (.int .i64 (b.getD (k + 1) 0 : Nat)) := by
        have := (hR.on O).cell (i64s_get (show k + 1 < b.length by rw [HL.out]; exact hlt))
        rwa [Nat.zero_add] at this
      have h1 : (k : Int) + 1 < n := by omega
      have h2 : IntKind.i64.wrap ((k : Int) + 1) = ((k + 1 : Nat) : Int) := by rw [IntKind.wrap_i64]; omega
      have hup := fun j (h : k + 1 ≤ j) (hj : j < b.length) (hx : m < b.getD (k + 1) 0) => (show m < b.getD j 0 by
        by_cases e : j = k + 1
        · rw [e]; exact hx
        · have := rising_lt HR.out (show k + 1 < j by omega) hj; omega)
      have HUP := Lib.hid hup
      clear hup
      generalize hxx : b.getD (k + 1) 0 = x at *
      have HXX := Lib.hid hxx
      clear hxx
      by_cases hx : x ≤ m
      · have hx' : (x : Int) ≤ m := by omega
        go_wp2_with fail
        exact ⟨⟨k + 1, by go_num, hlt, Lib.hid (by rw [HXX.out]; exact hx), O⟩, by simp [intOf]; omega⟩
      · have hx' : (m : Int) < x := by omega
        go_wp2_with fail
        go_ret
        refine ⟨?_, O⟩
        show Ending.returned (.int .i64 _) = _
        rw [lad_is HR.out ⟨by rw [HL.out]; exact hk, hle.out, fun j hj hj2 => HUP.out j (by omega) hj2 (by omega)⟩]
    · obtain rfl : n = k + 1 := by omega
      go_wp2_with fail
      go_ret
      refine ⟨?_, O⟩
      show Ending.returned (.int .i64 _) = _
      rw [lad_is HR.out ⟨by rw [HL.out]; exact hk, hle.out, fun j hj hj2 => by rw [HL.out] at hj2; omega⟩]
set_option maxRecDepth 100000 in
set_option maxHeartbeats 1000000 in
theorem find_calls (b : List Nat) (g n cap m : Nat) (v2 : Value) (w : World) (hR : RowO w g 0 3 (i64s b)) (hl : b.length = n) (hn : n ≤ 1000) (hc : n ≤ cap) (h0 : 1 ≤ n) (hm : b.getD 0 0 ≤ m) (hr : Rising b) (hm2 : m ≤ 100000) (hv : ∃ g2 c2, v2 = .slice (some ⟨g2, 0, none⟩) n c2) :
    Calls Tryd.prog 62 #[.agg #[.slice (some ⟨g, 0, none⟩) n cap, v2], .int .i64 m] w (Tells w (.int .i64 (lad b m : Nat))) := by
  obtain ⟨g2, c2, rfl⟩ := hv
  have HL := Lib.hid hl
  have HR := Lib.hid hr
  have H0 := Lib.hid hm
  clear hl hr hm
  go_enter Tryd.func62, Tryd.ntmps62
  go_wp2_with fail
  have O1 := (On.refl w).alloc (.cells #[.slice (some ⟨g, 0, none⟩) n cap, .slice (some ⟨g2, 0, none⟩) n c2] 69)
  have B1 := Blk.new w 69 #[.slice (some ⟨g, 0, none⟩) n cap, .slice (some ⟨g2, 0, none⟩) n c2]
  generalize w.alloc (.cells #[.slice (some ⟨g, 0, none⟩) n cap, .slice (some ⟨g2, 0, none⟩) n c2] 69) = w1 at *
  have R1 := hR.on O1
  generalize w.heap.size = B at *
  have k0 : w1.cell? ⟨B, 0, none⟩ = some (.slice (some ⟨g, 0, none⟩) n cap) := (B1.cell 0).trans rfl
  go_loop [5] (fun x => ∃ k : Nat, x = .int .i64 (k : Int) ∧ k < n ∧ RowKit.Hid (∀ j, k < j → j < b.length → m < b.getD j 0)) (fun x => (intOf x).toNat)
  case atStart => exact ⟨n - 1, by congr 1; omega, by omega, Lib.hid (fun j hj hj2 => by rw [HL.out] at hj2; omega)⟩
  case round =>
    obtain ⟨k, rfl, hk, hnx⟩ := hrel
    have c0 : w1.cell? ⟨g, k, none⟩ = some (.int .i64 (b.getD k 0 : Nat)) := by
      have := R1.cell (i64s_get (show k < b.length by rw [HL.out]; exact hk))
      rwa [Nat.zero_add] at this
    have h0k : m < b.getD k 0 → 0 < k := fun h => by
      rcases Nat.eq_zero_or_pos k with e | e
      · subst e; have := H0.out; omega
      · exact e
    have H0K := Lib.hid h0k
    clear h0k
    generalize hxx : b.getD k 0 = x at *
    have HXX := Lib.hid hxx
    clear hxx
    have hk0 : (0 : Int) ≤ k := by omega
    have hk1 : (k : Int) < n := by omega
    by_cases hx : m < x
    · have hx' : (m : Int) < x := by omega
      have hkp := H0K.out hx
      obtain ⟨k', rfl⟩ : ∃ k', k = k' + 1 := ⟨k - 1, by omega⟩
      go_wp2_with fail
      go_round
      case rel =>
        refine ⟨k', by go_num, by omega, Lib.hid (fun j hj hj2 => ?_)⟩
        by_cases e : j = k' + 1
        · rw [e, HXX.out]; exact hx
        · exact hnx.out j (by omega) hj2
      case measure => simp [intOf]
    · have hx' : ¬ (m : Int) < x := by omega
      go_wp2_with fail
      go_ret
      refine ⟨?_, O1⟩
      show Ending.returned (.int .i64 _) = _
      rw [lad_is HR.out ⟨by rw [HL.out]; exact hk, by rw [HXX.out]; omega, hnx.out⟩]
end Go.Proofs.YtncidljdfipigaaDoor.Wi

