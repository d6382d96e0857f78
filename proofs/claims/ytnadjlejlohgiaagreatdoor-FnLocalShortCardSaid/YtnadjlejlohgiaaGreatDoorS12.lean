/- Own texts joined: Wi. -/
import Derived.Test.YtnadjlejlohgiaaGreatDoorChecked
import Derived.Lib.Hide
import Derived.WalkKit
import Derived.WalkSpells
import Derived.Laws.BitsLemmas
import Derived.StillTailTactics
import Derived.BigRegion
import Derived.Test.YtnadjlejlohgiaaGreatDoorS5
import Derived.Test.YtnadjlejlohgiaaGreatDoorS6
/- The program's writer of bits: what put and even do. Conditions: a writer, sizes. -/
namespace Go.Proofs.YtnadjlejlohgiaaGreatDoor.Wi
open Go.RowKit Go.Proofs.YtnadjlejlohgiaaGreatDoor.Mem Go.Proofs.YtnadjlejlohgiaaGreatDoor.Bt
set_option linter.unusedVariables false
set_option linter.unusedSimpArgs false
/-- The program's writer at block g, its bytes at block r: what bits it holds. -/
structure IW (w : World) (g r : Nat) (bs : List Bool) : Prop where mk :: (out : ∃ v, Blk w g 111 #[v, .int .i64 bs.length] ∧ Bytes w r v (pack bs) ∧ (r ≠ g ∨ v = .slice none 0 0))
/-- What a call on a writer leaves: all but the writer's two blocks. -/
structure Mv (g r : Nat) (w : World) (r' : Nat) (w' : World) : Prop where
  kp : Kp [g, r] w w'
  at_ : r' = r ∨ w.heap.size ≤ r'
  lt : r < w.heap.size → r' < w'.heap.size
theorem mv_kp {g r : Nat} {w w' : World} (k : Kp [g, r] w w') : Mv g r w r w' := ⟨k, .inl rfl, fun h => Nat.lt_of_lt_of_le h k.size⟩
theorem Bytes.kp2 {w w' : World} {g r : Nat} {v : Value} {l : List Nat} (h : Bytes w r v l) (hor : r ≠ g ∨ v = .slice none 0 0) (k : Kp [g] w w') : Bytes w' r v l :=
  ⟨k.owns h.own (fun j hj => by
    rcases hor with e | e
    · rw [h.at_ j hj]; simpa using e
    · rw [e] at hj; simp [Value.ownBlock] at hj), h.at_⟩
/-- A block for the bytes: theirs, or (there are none) none at all. -/
theorem pick {w : World} {g r : Nat} {v : Value} {l : List Nat} (hg : g < w.heap.size) (hb : Bytes w r v l) (h : r ≠ g ∨ v = .slice none 0 0) : ∃ r0, Bytes w r0 v l ∧ r0 ≠ g ∧ (r0 = r ∨ r0 = w.heap.size) := by
  by_cases e : v = .slice none 0 0
  · exact ⟨w.heap.size, ⟨hb.own, fun k hk => by rw [e] at hk; simp [Value.ownBlock] at hk⟩, by omega, .inr rfl⟩
  · rcases h with h | h
    · exact ⟨r, hb, h, .inl rfl⟩
    · exact absurd h e
theorem mv_of {g r r0 r2 : Nat} {w w2 : World} (h : r0 = r ∨ r0 = w.heap.size) (k : Kp [g, r0] w w2) (h2 : r2 = r0 ∨ w.heap.size ≤ r2) (h3 : r2 < w2.heap.size) : Mv g r w r2 w2 := by
  refine ⟨k.mono (fun x hx => ?_), ?_, fun _ => h3⟩
  · simp only [List.mem_cons, List.not_mem_nil, or_false] at hx ⊢
    rcases hx with rfl | rfl
    · exact .inl (.inl rfl)
    · rcases h with rfl | rfl
      · exact .inl (.inr rfl)
      · exact .inr (Nat.le_refl _)
  · rcases h with rfl | rfl <;> rcases h2 with e | e <;> omega
theorem Mv.refl (g r : Nat) (w : World) : Mv g r w r w := mv_kp (Kp.refl _ _)
theorem Mv.trans {g r r1 r2 : Nat} {w w1 w2 : World} (h : Mv g r w r1 w1) (k : Mv g r1 w1 r2 w2) : Mv g r w r2 w2 := by
  refine ⟨h.kp.trans k.kp (fun x hx => ?_), ?_, fun hh => k.lt (h.lt hh)⟩
  · simp only [List.mem_cons, List.not_mem_nil, or_false] at hx ⊢
    rcases hx with rfl | rfl
    · exact .inl (.inl rfl)
    · rcases h.at_ with e | e
      · exact .inl (.inr e)
      · exact .inr e
  · have := h.kp.size
    rcases k.at_ with e | e
    · rw [e]; exact h.at_
    · right; omega
theorem tmod_nat (a b : Nat) : Int.tmod (a : Int) (b : Int) = ((a % b : Nat) : Int) := by rw [Int.tmod_eq_emod_of_nonneg (by omega)]; simp
theorem tdiv_nat (a b : Nat) : Int.tdiv (a : Int) (b : Int) = ((a / b : Nat) : Int) := by rw [Int.tdiv_eq_ediv_of_nonneg (by omega)]; simp
theorem wr_i64 (n : Int) (h₀ : 0 ≤ n) (h₁ : n < 2 ^ 63) : IntKind.i64.wrap n = n := by rw [IntKind.wrap_i64]; omega
theorem wr_u8 (n : Int) (h₀ : 0 ≤ n) (h₁ : n < 2 ^ 8) : IntKind.u8.wrap n = n := by
  have e : IntKind.u8.wrap n = n % 256 := rfl
  rw [e]; omega
theorem and_mask (i : Nat) (hi : i ≤ 63) {x m : Int} (hm : m = 2 ^ i - 1) (h0 : 0 ≤ x) (h1 : x < 9223372036854775808) : Go.bits .and .i64 x m = x % 2 ^ i := by
  subst hm
  exact bits_mask .i64 63 (by decide) wr_i64 i hi x h0 (by omega)
theorem or_comm8 (x y : Int) : Go.bits .or .u8 x y = Go.bits .or .u8 y x := by
  simp only [Go.bits]; rw [BitVec.or_comm]
theorem or_add8 (i : Nat) {x y : Int} (h0 : 0 ≤ x) (hx : x % 2 ^ i = 0) (h1 : x < 256) (y0 : 0 ≤ y) (y1 : y < 2 ^ i) (y2 : y < 256) : Go.bits .or .u8 x y = x + y :=
  bits_join .u8 8 (by decide) wr_u8 i x y h0 hx (by omega) y0 y1 (by omega)
theorem bit_and (num k : Nat) (h : num < 9223372036854775808) : Go.bits .and .i64 ((num : Int) / 2 ^ k) 1 = ((num / 2 ^ k % 2 : Nat) : Int) := by
  have e : ((num : Int) / 2 ^ k) = ((num / 2 ^ k : Nat) : Int) := by simp
  have h2 : num / 2 ^ k ≤ num := Nat.div_le_self _ _
  generalize num / 2 ^ k = y at *
  rw [e, and_mask 1 (by omega) (by decide) (by omega) (by omega)]
  omega
theorem or_bit {x y p : Nat} (hx : x < 2) (hp : p < 8) (hy : y < 2 ^ p) : Go.bits .or .u8 (y : Int) ((2 ^ p * x : Nat) : Int) = ((y + 2 ^ p * x : Nat) : Int) ∧ 2 ^ p * x < 256 ∧ y < 256 := by
  have h1 : 2 ^ p ≤ 2 ^ 7 := Nat.pow_le_pow_right (by omega) (by omega)
  have h2 : 2 ^ p * x ≤ 2 ^ p * 1 := Nat.mul_le_mul_left _ (by omega)
  have e : (2 : Int) ^ p = ((2 ^ p : Nat) : Int) := by simp
  refine ⟨?_, by omega, by omega⟩
  rw [or_comm8, or_add8 p (x := ((2 ^ p * x : Nat) : Int)) (y := (y : Int)) (by omega) (by rw [e, Int.natCast_mul, Int.mul_emod_right]) (by omega) (by omega) (by rw [e]; omega) (by omega)]
  omega
theorem iw_close {W : World} {g r n cap m q x : Nat} {l : List Nat} {bs : List Bool} (B : Blk W g 111 #[.slice (some ⟨r, 0, none⟩) n cap, .int .i64 (m : Int)]) (Y : Bytes W r (.slice (some ⟨r, 0, none⟩) n cap) l) (hne : l ≠ []) (hrg : r ≠ g)
    (hm : bs.length = m + 1) (hp : l.set q x = pack bs) : IW ((W.setCell ⟨r, q, none⟩ (.int .u8 (x : Int))).setCell ⟨g, 1, none⟩ (.int .i64 ((m : Int) + 1))) g r bs := by
  have B1 := ((B.far (p := ⟨r, q, none⟩) (Ne.symm hrg) (.int .u8 (x : Int))).set 1 (.int .i64 ((m : Int) + 1)))
  have Y1 := (Y.set hne q x).kp ((Kp.refl [g] _).set (p := ⟨g, 1, none⟩) (.inl (by simp)) (.int .i64 ((m : Int) + 1))) (by simpa using hrg)
  rw [hp] at Y1
  refine ⟨_, ?_, Y1, .inl hrg⟩
  rw [hm]
  exact B1
set_option maxRecDepth 100000 in
theorem put_calls (g r : Nat) (bs : List Bool) (num n : Nat) (w : World) (hw : IW w g r bs) (hn : n ≤ 16) (hb : bs.length ≤ 100000000) (hnum : num < 9223372036854775808) :
    Calls Tryz.prog 105 #[.pointer (some ⟨g, 0, none⟩), .int .i64 num, .int .i64 n] w fun e w' => ∃ r', e = .returned (.tuple #[]) ∧ IW w' g r' (bs ++ bitsOf num n) ∧ Mv g r w r' w' := by
  go_enter Tryz.func105, Tryz.ntmps105
  go_wp2_with fail
  go_loopw [8] (fun x wr => ∃ (k r' : Nat), x = .int .i64 k ∧ k ≤ n ∧ IW wr g r' (bs ++ bitsOf num k) ∧ Mv g r w r' wr) (fun x _ => n - (intOf x).toNat)
  case atStart => exact ⟨0, r, rfl, by omega, by simpa [bitsOf] using hw, Mv.refl _ _ _⟩
  case round =>
    obtain ⟨k, r', rfl, hk, hw', M⟩ := hrel
    by_cases hlt : k < n
    · have hl : (bs ++ bitsOf num k).length = bs.length + k := by rw [List.length_append, bits_length]
      have hsn : bs ++ bitsOf num (k + 1) = (bs ++ bitsOf num k) ++ [num / 2 ^ k % 2 == 1] := by rw [bits_snoc, List.append_assoc]
      have HSN := Lib.hid hsn
      clear hsn
      generalize bs ++ bitsOf num k = bk at *
      obtain ⟨v, hblk, hby0, hor⟩ := hw'.out
      obtain ⟨r0, hby, hrg, hr0⟩ := pick hblk.lt hby0 hor
      clear hby0 hor
      have c0 : wr.cell? ⟨g, 0, none⟩ = some v := (hblk.cell 0).trans rfl
      have c1 : wr.cell? ⟨g, 1, none⟩ = some (.int .i64 bk.length) := (hblk.cell 1).trans rfl
      have fr : ∀ i, wr.frozen? ⟨g, i, none⟩ = false := hblk.frozen
      have hm : (bk.length : Int) ≤ 200000000 := by omega
      have hm2 : (k : Int) < n := by omega
      generalize hm0 : bk.length = m at *
      have HM := Lib.hid hm0
      have HL := Lib.hid hl
      have hdec : r0 ≠ g → g ∉ [r0] := fun h => by simp; omega
      have HG := Lib.hid (hdec hrg)
      clear hm0 hl hw' hdec
      have hg1 := hblk.lt
      by_cases h8 : m % 8 = 0
      case' pos =>
        have hl0 : (pack bk).length = m / 8 := by rw [pack_length, HM.out]; omega
        have hs0 : ∀ b, b1 (num / 2 ^ k % 2 == 1) = b → (pack bk ++ [0]).set (m / 8) (0 + 2 ^ (m % 8) * b) = pack (bk ++ [num / 2 ^ k % 2 == 1]) := fun b hb => by
          rw [pack_snoc0 bk _ (by rw [HM.out]; exact h8), hb, h8, ← hl0, List.set_append_right _ _ (Nat.le_refl _), Nat.sub_self, Nat.zero_add, Nat.pow_zero, Nat.one_mul]; rfl
        have h00 : (pack bk ++ [0]).getD (m / 8) 0 = 0 := by rw [← hl0, List.getD_eq_getElem?_getD, List.getElem?_append_right (Nat.le_refl _), Nat.sub_self]; rfl
        obtain ⟨y, h0, hsn, hy⟩ : ∃ y, (pack bk ++ [0]).getD (m / 8) 0 = y ∧ (∀ b, b1 (num / 2 ^ k % 2 == 1) = b → (pack bk ++ [0]).set (m / 8) (y + 2 ^ (m % 8) * b) = pack (bk ++ [num / 2 ^ k % 2 == 1])) ∧ y < 2 ^ (m % 8) :=
          ⟨0, h00, hs0, Nat.two_pow_pos _⟩
        have e8 : Int.tmod (m : Int) 8 = 0 := by rw [show (8 : Int) = ((8 : Nat) : Int) from rfl, tmod_nat, h8]; rfl
        have hsz : (pack bk).length ≤ 100000000 := by omega
        have hlq : (pack bk ++ [0]).length = m / 8 + 1 := by rw [List.length_append, List.length_singleton, hl0]
        have HP := Lib.hid hl0
        have HS := Lib.hid hsn
        have H0 := Lib.hid h0
        have HLQ := Lib.hid hlq
        have H8 := Lib.hid h8
        clear hl0 hsn h0 hlq h8 hs0 h00
        go_wp2_with (at_builtin; go_must (refine wpList_byte (x := 0) rfl _ _ rfl rfl hby rfl hsz ?_); intro r2 cap w1 hby2 hr2 hrl2 K2 hc1 hc2; have d0 : w1.cell? ⟨g, 0, none⟩ = some v := ((K2.blk hblk HG.out).cell 0).trans rfl; have d1 : w1.cell? ⟨g, 1, none⟩ = some (.int .i64 m) := ((K2.blk hblk HG.out).cell 1).trans rfl; have dr : ∀ i, w1.frozen? ⟨g, i, none⟩ = false := (K2.blk hblk HG.out).frozen; clear c0 c1 fr)
        have BW := (K2.blk hblk HG.out).set 0 (.slice (some ⟨r2, 0, none⟩) ((pack bk).length + 1) cap)
        have hrg2 : r2 ≠ g := by have := HG.out; simp at this; omega
        have YW := hby2.kp ((Kp.refl [g] w1).set (p := ⟨g, 0, none⟩) (.inl (by simp)) (.slice (some ⟨r2, 0, none⟩) ((pack bk).length + 1) cap)) (by simpa using hrg2)
        have KW := (K2.mono (T := [g, r0]) (fun x hx => .inl (by simp at hx ⊢; exact .inr hx))).set (p := ⟨g, 0, none⟩) (.inl (by simp)) (.slice (some ⟨r2, 0, none⟩) ((pack bk).length + 1) cap)
        have hrW : r2 < (w1.setCell ⟨g, 0, none⟩ (.slice (some ⟨r2, 0, none⟩) ((pack bk).length + 1) cap)).heap.size := by simp [World.setCell]; exact hrl2
        generalize w1.setCell ⟨g, 0, none⟩ (.slice (some ⟨r2, 0, none⟩) ((pack bk).length + 1) cap) = W at *
        rw [HP.out] at YW BW hc1 ⊢
        have M2 : Mv g r w r2 W := M.trans (mv_of hr0 KW hr2 hrW)
        have e6 : Int.tmod (m : Int) 8 = ((m % 8 : Nat) : Int) := tmod_nat m 8
        clear hby hby2 hblk hr2 hrl2 K2 d0 d1 dr e8 hrg M KW hr0
        generalize pack bk ++ [0] = L at *
      case' neg =>
        have hlp : (pack bk).length = m / 8 + 1 := by rw [pack_length, HM.out]; omega
        obtain ⟨hq1, hq2, hq3⟩ := pack_snoc1 bk (num / 2 ^ k % 2 == 1) (by rw [HM.out]; exact h8)
        rw [HM.out] at hq2 hq3
        have hy0 : (pack bk).getD (m / 8) 0 < 2 ^ (m % 8) := by
          rw [hq2]
          refine Nat.lt_of_lt_of_le (val_lt _) (Nat.pow_le_pow_right (by omega) ?_)
          rw [List.length_drop, HM.out]; omega
        obtain ⟨y, h0, hsn, hy⟩ : ∃ y, (pack bk).getD (m / 8) 0 = y ∧ (∀ b, b1 (num / 2 ^ k % 2 == 1) = b → (pack bk).set (m / 8) (y + 2 ^ (m % 8) * b) = pack (bk ++ [num / 2 ^ k % 2 == 1])) ∧ y < 2 ^ (m % 8) :=
          ⟨_, rfl, fun b hb => by rw [hq3, hb], hy0⟩
        obtain ⟨cap, rfl, hc1, hc2, RR⟩ := hby.parts (by intro e; rw [e] at hlp; simp at hlp)
        have hrlt := RR.lt
        clear RR
        rw [hlp] at hblk c0 hby hc1
        have e6 : Int.tmod (m : Int) 8 = ((m % 8 : Nat) : Int) := tmod_nat m 8
        have e8' : (Int.tmod (m : Int) 8 == 0) = false := by rw [e6]; simp; omega
        have H8 := Lib.hid h8
        have HLQ := Lib.hid hlp
        have HS := Lib.hid hsn
        have H0 := Lib.hid h0
        clear hlp hsn h0 hq1 hq2 hq3 h8 hy0
        go_wp2_with fail
        have BW := hblk
        have YW := hby
        have M2 := M.trans (mv_of hr0 (Kp.refl [g, r0] wr) (.inl rfl) hrlt)
        have hrg2 := hrg
        clear hby hblk e8' c0 c1 fr hrg M hr0
        generalize pack bk = L at *
        obtain ⟨r2, hr2⟩ : ∃ r2, r2 = r0 := ⟨_, rfl⟩
        obtain ⟨W, hW⟩ : ∃ W, W = wr := ⟨_, rfl⟩
        subst hr2
        subst hW
      all_goals
        have hne : L ≠ [] := by intro e; have := HLQ.out; rw [e] at this; simp at this
        have RW : Row W r2 5 (u8s L) := by obtain ⟨_, _, _, _, h⟩ := YW.parts hne; exact h
        have k0 : W.cell? ⟨g, 0, none⟩ = some (.slice (some ⟨r2, 0, none⟩) (m / 8 + 1) cap) := (BW.cell 0).trans rfl
        have k1 : W.cell? ⟨g, 1, none⟩ = some (.int .i64 m) := (BW.cell 1).trans rfl
        have k2 : W.cell? ⟨r2, m / 8, none⟩ = some (.int .u8 (y : Int)) := by
          rw [← H0.out]; exact RW.cell (u8s_get (by have := HLQ.out; omega))
        have e3 : IntKind.i64.wrap ((m : Int) / 8) = ((m / 8 : Nat) : Int) := by rw [IntKind.wrap_i64]; omega
        have e4 : (m / 8 : Nat) ≤ 100000000 := by omega
        have e5 : (m % 8 : Nat) < 8 := by omega
        have f0 := bit_and num k hnum
        have f1 : num / 2 ^ k % 2 < 2 := Nat.mod_lt _ (by omega)
        have HF := Lib.hid (HS.out _ (b1_mod (num / 2 ^ k)))
        obtain ⟨f5, f7, f8⟩ := or_bit (p := m % 8) f1 (by omega) hy
        have f3 : IntKind.i64.wrap (((num / 2 ^ k % 2 : Nat) : Int) * 2 ^ (m % 8)) = ((2 ^ (m % 8) * (num / 2 ^ k % 2) : Nat) : Int) := by
          rw [show ((num / 2 ^ k % 2 : Nat) : Int) * 2 ^ (m % 8) = ((2 ^ (m % 8) * (num / 2 ^ k % 2) : Nat) : Int) from by rw [Int.natCast_mul, Int.mul_comm]; simp]
          rw [IntKind.wrap_i64]; omega
        have f4 : IntKind.u8.wrap ((2 ^ (m % 8) * (num / 2 ^ k % 2) : Nat) : Int) = ((2 ^ (m % 8) * (num / 2 ^ k % 2) : Nat) : Int) := wr_u8 _ (by omega) (by omega)
        have f9 : ((m % 8 : Nat) : Int) < 64 := by omega
        have f10 : (0 : Int) ≤ ((m % 8 : Nat) : Int) := by omega
        clear HS
        generalize y + 2 ^ (m % 8) * (num / 2 ^ k % 2) = z at *
        generalize 2 ^ (m % 8) * (num / 2 ^ k % 2) = x at *
        generalize num / 2 ^ k % 2 = b at *
        generalize m % 8 = p at *
        generalize m / 8 = q at *
        have e7 : (q : Int) < (q : Int) + 1 := by omega
        go_still_tail 24, (by kernel_rfl)
        change wpList _ _ _ _ _ W.drew
        have BD := BW.drew
        have YD := YW.kp ((Kp.refl [] W).drew) (by simp)
        have MD := M2.trans (mv_kp (Kp.refl _ W).drew)
        generalize W.drew = W3 at *
        have k3 : W3.cell? ⟨g, 1, none⟩ = some (.int .i64 m) := (BD.cell 1).trans rfl
        have fr3 : ∀ i, W3.frozen? ⟨g, i, none⟩ = false := BD.frozen
        have RD : Row W3 r2 5 (u8s L) := by obtain ⟨_, _, _, _, h⟩ := YD.parts hne; exact h
        have k4 : W3.cell? ⟨r2, q, none⟩ = some (.int .u8 (y : Int)) := by
          rw [← H0.out]; exact RD.cell (u8s_get (by have := HLQ.out; omega))
        have fr4 : W3.frozen? ⟨r2, q, none⟩ = false := RD.frozen _
        clear k0 k1 k2
        go_wp2_with fail
        go_roundw
        case rel =>
          refine ⟨k + 1, r2, by go_num, by omega, ?_, ?_⟩
          · rw [HSN.out]
            exact iw_close BD YD hne hrg2 (by rw [List.length_append, HM.out]; rfl) HF.out
          · refine MD.trans (mv_kp (((Kp.refl _ _).set (.inl (by simp)) _).set (.inl (by simp)) _))
        case measure => simp [intOf]; omega
    · obtain rfl : k = n := by omega
      go_wp2_with fail
      go_end0
      exact ⟨r', rfl, hw', M⟩
set_option maxRecDepth 100000 in
theorem even_calls (g r : Nat) (bs : List Bool) (w : World) (hw : IW w g r bs) (hb : bs.length ≤ 100000000) :
    Calls Tryz.prog 106 #[.pointer (some ⟨g, 0, none⟩)] w fun e w' => e = .returned (.tuple #[]) ∧ IW w' g r (pad bs) ∧ Mv g r w r w' := by
  obtain ⟨v, hblk, hby, hor⟩ := hw.out
  have c1 : w.cell? ⟨g, 1, none⟩ = some (.int .i64 bs.length) := (hblk.cell 1).trans rfl
  have fr : ∀ i, w.frozen? ⟨g, i, none⟩ = false := hblk.frozen
  have hl : (pack bs).length ≤ 100000000 := by rw [pack_length]; omega
  have hp : (pad bs).length = 8 * (pack bs).length := by rw [pad_length, pack_length]
  have HP := Lib.hid hp
  have fin : IW (w.setCell ⟨g, 1, none⟩ (.int .i64 (8 * ((pack bs).length : Int)))) g r (pad bs) := by
    refine ⟨v, ?_, ?_, hor⟩
    · rw [HP.out]
      exact hblk.set 1 _
    · rw [pack_pad]
      refine ⟨((Kp.refl [g] w).set (p := ⟨g, 1, none⟩) (.inl (by simp)) _).owns hby.own (fun k hk => ?_), hby.at_⟩
      rcases hor with h | h
      · rw [hby.at_ k hk]; simpa using h
      · rw [h] at hk; simp [Value.ownBlock] at hk
  have mv : Mv g r w r (w.setCell ⟨g, 1, none⟩ (.int .i64 (8 * ((pack bs).length : Int)))) := mv_kp ((Kp.refl _ _).set (.inl (by simp)) _)
  have FIN := Lib.hid fin
  have hs := hby.slice
  clear hp fin
  rcases hs with ⟨rfl, h0⟩ | ⟨cap, rfl, hc1, hc2⟩
  · have c0 : w.cell? ⟨g, 0, none⟩ = some (.slice none 0 0) := (hblk.cell 0).trans rfl
    rw [h0] at FIN mv
    clear hblk hby h0 hl
    go_enter Tryz.func106, Tryz.ntmps106
    go_wp2_with fail
    go_end0
    exact ⟨rfl, FIN.out, mv⟩
  · have c0 : w.cell? ⟨g, 0, none⟩ = some (.slice (some ⟨r, 0, none⟩) (pack bs).length cap) := (hblk.cell 0).trans rfl
    clear hblk hby
    generalize (pack bs).length = n at *
    go_enter Tryz.func106, Tryz.ntmps106
    go_wp2_with fail
    go_end0
    exact ⟨rfl, FIN.out, mv⟩
end Go.Proofs.YtnadjlejlohgiaaGreatDoor.Wi

