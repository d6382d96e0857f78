/- Own texts joined: WToks. -/
import Derived.Test.YtnadjlejlohgiaaGreatDoorS10
import Derived.Test.YtnadjlejlohgiaaGreatDoorS20
import Derived.Test.YtnadjlejlohgiaaGreatDoorS21
/- Tokens as they are written by two codes, in the program. Conditions: the codes have all symbols; sizes. -/
namespace Go.Proofs.YtnadjlejlohgiaaGreatDoor.Wi
open Go.RowKit Go.Proofs.YtnadjlejlohgiaaGreatDoor.Mem Go.Proofs.YtnadjlejlohgiaaGreatDoor.Bt Go.Proofs.YtnadjlejlohgiaaGreatDoor.Cd Go.Proofs.YtnadjlejlohgiaaGreatDoor.De Go.Proofs.YtnadjlejlohgiaaGreatDoor.En Go.Proofs.YtnadjlejlohgiaaGreatDoor.Lz
set_option linter.unusedVariables false
set_option linter.unusedSimpArgs false
theorem IW.lt {w : World} {g r : Nat} {bs : List Bool} (h : IW w g r bs) (hne : bs ≠ []) : r < w.heap.size := by
  obtain ⟨v, hb, hy, _⟩ := h.out
  have : pack bs ≠ [] := by
    intro e
    have := pack_length bs
    rw [e] at this
    have := List.length_pos_iff.2 hne
    simp at *; omega
  obtain ⟨_, _, _, _, R⟩ := hy.parts this
  exact R.lt
theorem SW.glt {w : World} {g r : Nat} {bs : List Bool} (h : SW w g r bs) : g < w.heap.size := by obtain ⟨v, hb, _⟩ := h.out; exact hb.lt
theorem IW.glt {w : World} {g r : Nat} {bs : List Bool} (h : IW w g r bs) : g < w.heap.size := by obtain ⟨v, hb, _⟩ := h.out; exact hb.lt
theorem tok_get {l : List Tok} {k : Nat} (hk : k < l.length) : (tokCells l)[k * 3]? = some (.int .i64 l[k].byte) ∧ (tokCells l)[k * 3 + 1]? = some (.int .i64 l[k].long) ∧ (tokCells l)[k * 3 + 2]? = some (.int .i64 l[k].back) := by
  induction l generalizing k with
  | nil => simp at hk
  | cons t l ih =>
    have e : tokCells (t :: l) = (tokArr t).toList ++ tokCells l := by simp [tokCells]
    rw [e]
    cases k with
    | zero => exact ⟨rfl, rfl, rfl⟩
    | succ k =>
      have h3 : (tokArr t).toList.length = 3 := rfl
      have := ih (k := k) (by simpa using hk)
      refine ⟨?_, ?_, ?_⟩
      · rw [List.getElem?_append_right (by omega), h3, show (k + 1) * 3 - 3 = k * 3 from by omega]; exact this.1
      · rw [List.getElem?_append_right (by omega), h3, show (k + 1) * 3 + 1 - 3 = k * 3 + 1 from by omega]; exact this.2.1
      · rw [List.getElem?_append_right (by omega), h3, show (k + 1) * 3 + 2 - 3 = k * 3 + 2 from by omega]; exact this.2.2
/-- What is written of a token: codes short enough. -/
structure Fine (lit dist : List Nat) (t : Tok) : Prop where
  byte : t.long = 0 → 0 ≤ t.byte ∧ t.byte ≤ 255
  long : t.long ≠ 0 → 3 ≤ t.long ∧ t.long ≤ 60 ∧ 1 ≤ t.back ∧ t.back ≤ 250
theorem fine_of {lit dist : List Nat} {l : List Tok} {out o : List Nat} (h : text out l = some o) : ∀ t ∈ l, Fine lit dist t := fun t ht => by
  obtain ⟨o1, o2, ha⟩ := text_adds l out o h t ht
  refine ⟨fun h0 => ?_, fun h0 => ?_⟩
  · have := add_byte ha h0; exact ⟨this.2.1, this.2.2.1⟩
  · have := add_long ha h0; exact this.2
theorem enc_length (lens : List Nat) (h15 : ∀ x ∈ lens, x ≤ 15) (s : Nat) : (enc lens s).length ≤ 15 := by
  unfold enc; rw [List.length_reverse, bits_length]; exact getD_le h15 s
theorem encTok_le {lit dist : List Nat} {t : Tok} (F : Fine lit dist t) (l15 : ∀ x ∈ lit, x ≤ 15) (d15 : ∀ x ∈ dist, x ≤ 15) : (encTok lit dist t).length ≤ 50 := by
  unfold encTok
  split
  · have := enc_length lit l15 t.byte.toNat; omega
  · rename_i h
    obtain ⟨l3, l60, k1, k250⟩ := F.long h
    obtain ⟨a1, a2, a3, a4⟩ := lad_long t.long.toNat (by omega) (by omega)
    obtain ⟨c1, c2, c3, c4⟩ := lad_back t.back.toNat (by omega) (by omega)
    have := enc_length lit l15 (257 + lad longBase t.long.toNat)
    have := enc_length dist d15 (lad backBase t.back.toNat)
    simp only [List.length_append, bits_length]
    omega
theorem flat_le {lit dist : List Nat} {l : List Tok} (F : ∀ t ∈ l, Fine lit dist t) (l15 : ∀ x ∈ lit, x ≤ 15) (d15 : ∀ x ∈ dist, x ≤ 15) : ∀ k, ((l.take k).flatMap (encTok lit dist)).length ≤ 50 * k := by
  intro k
  induction k with
  | zero => simp
  | succ k ih =>
    by_cases h : k < l.length
    · rw [List.take_succ_eq_append_getElem h, List.flatMap_append, List.length_append]
      have := encTok_le (F _ (List.getElem_mem h)) l15 d15
      simp only [List.flatMap_cons, List.flatMap_nil, List.append_nil]
      omega
    · rw [List.take_of_length_le (by omega)]
      rw [List.take_of_length_le (by omega)] at ih
      omega
theorem Mv.out {g r q r' : Nat} {w w' : World} (M : Mv g r w r' w') (hq : q < w.heap.size) (h : q ∉ [g, r]) : q ∉ [g, r'] := by
  simp only [List.mem_cons, List.not_mem_nil, or_false, not_or] at h ⊢
  rcases M.at_ with e | e <;> omega
theorem not_in {q g r : Nat} (h1 : q ≠ g) (h2 : q ≠ r) : q ∉ [g, r] := by simp [h1, h2]
theorem field_fst (x y : Value) (w : World) : (Instr.field 119 (.agg #[x, y]) 0).run Tryz.prog w = .ok x w := by kernel_rfl
theorem field_snd (x y : Value) (w : World) : (Instr.field 119 (.agg #[x, y]) 1).run Tryz.prog w = .ok y w := by kernel_rfl
set_option maxRecDepth 100000 in
set_option maxHeartbeats 2000000 in
theorem itokens_calls (g r q n cap gl ol nl cl gd od nd cd : Nat) (bs : List Bool) (l : List Tok) (lit dist : List Nat) (w : World) (hw : IW w g r bs) (hne : bs ≠ []) (hb : bs.length ≤ 100000)
    (hq : Row w q 117 (tokCells l)) (hl : RowO w gl ol 3 (i64s lit)) (hd : RowO w gd od 3 (i64s dist)) (hn : l.length = n) (hn2 : n ≤ 1000) (hnc : n ≤ cap) (hnl : lit.length = nl) (hnd : dist.length = nd) (hnlc : nl ≤ cl) (hndc : nd ≤ cd)
    (hnl2 : nl ≤ 1000) (hnd2 : nd ≤ 1000) (H : Has lit dist l) (F : ∀ t ∈ l, Fine lit dist t) (fq : q ∉ [g, r]) (fl : gl ∉ [g, r]) (fd : gd ∉ [g, r]) :
    Calls Tryz.prog 107 #[.pointer (some ⟨g, 0, none⟩), .slice (some ⟨q, 0, none⟩) n cap, .slice (some ⟨gl, ol, none⟩) nl cl, .slice (some ⟨gd, od, none⟩) nd cd] w fun e w' => ∃ r', e = .returned (.tuple #[]) ∧ IW w' g r' (bs ++ encToks lit dist l) ∧ Mv g r w r' w' := by
  have HN := Lib.hid hn
  have HNL := Lib.hid hnl
  have HND := Lib.hid hnd
  have HF := Lib.hid F
  have HH := Lib.hid H
  have HW := Lib.hid hw
  have hr := hw.lt hne
  have hg := hw.glt
  have FQ := Lib.hid fq
  have FL := Lib.hid fl
  have FD := Lib.hid fd
  clear hn hnl hnd F H hw fq fl fd
  go_enter Tryz.func107, Tryz.ntmps107
  go_wp2_with fail
  refine (icodes_calls lit gl ol nl cl w hl HNL.out hnl2 hnlc).mono ?_
  rintro e w1 ⟨ra, ca, rfl, Na, ha1, ha2, O1⟩
  rw [codes_length, HNL.out] at Na ⊢
  go_wp2_with fail
  refine (icodes_calls dist gd od nd cd w1 (hd.on O1) HND.out hnd2 hndc).mono ?_
  rintro e w2 ⟨rb, cb, rfl, Nb, hb1, hb2, O2⟩
  rw [codes_length, HND.out] at Nb ⊢
  have Ra := (Na.on O2).row.1.toO
  have Rb := Nb.row.1.toO
  have OW := O1.call O2
  have hq2 := hq.on OW
  have hl2 := hl.on OW
  have hd2 := hd.on OW
  have hs1 := O1.size
  have hw2 : RowKit.Hid (IW w2 g r bs) := Lib.hid (HW.out.on OW)
  have FA : RowKit.Hid (ra ∉ [g, r]) := Lib.hid (not_in (by omega) (by omega))
  have FB : RowKit.Hid (rb ∉ [g, r]) := Lib.hid (not_in (by omega) (by omega))
  clear Na Nb
  go_wp2_with fail
  go_loopw [19] (fun x wr => ∃ (k r' : Nat), x = .int .i64 (k : Int) ∧ k ≤ n ∧ IW wr g r' (bs ++ (l.take k).flatMap (encTok lit dist)) ∧ Mv g r w2 r' wr) (fun x _ => n - (intOf x).toNat)
  case atStart => exact ⟨0, r, rfl, by omega, by simpa using hw2.out, Mv.refl _ _ _⟩
  case round =>
    obtain ⟨k, r', rfl, hk, hwr, M⟩ := hrel
    by_cases hlt : k < n
    · have hkl : k < l.length := by rw [HN.out]; exact hlt
      obtain ⟨t0, t1, t2⟩ := tok_get hkl
      have hstep : (l.take (k + 1)).flatMap (encTok lit dist) = (l.take k).flatMap (encTok lit dist) ++ encTok lit dist l[k] := by
        rw [List.take_succ_eq_append_getElem hkl, List.flatMap_append]; simp
      have Ft := HF.out _ (List.getElem_mem hkl)
      have Hby := HH.out.byte _ (List.getElem_mem hkl)
      have Hlo := HH.out.long _ (List.getElem_mem hkl)
      have Hba := HH.out.back _ (List.getElem_mem hkl)
      have hfl := flat_le HF.out HH.out.l15 HH.out.d15 k
      have R := M.kp.row hq2 FQ.out
      have c0 := R.cell t0
      have c1 := R.cell t1
      have c2 := R.cell t2
      have hbl : (bs ++ (l.take k).flatMap (encTok lit dist)).length ≤ 200000 := by rw [List.length_append]; omega
      have hst2 : bs ++ (l.take (k + 1)).flatMap (encTok lit dist) = (bs ++ (l.take k).flatMap (encTok lit dist)) ++ encTok lit dist l[k] := by rw [hstep, List.append_assoc]
      generalize l[k] = t at *
      generalize hbk : bs ++ (l.take k).flatMap (encTok lit dist) = bk at *
      have hbne : bk ≠ [] := by rw [← hbk]; simp [hne]
      have HNE := Lib.hid hbne
      have HST := Lib.hid hst2
      clear hbk hbne t0 t1 t2 hstep hst2
      obtain ⟨tb, tl, tk⟩ := t
      simp only at c0 c1 c2 Ft Hby Hlo Hba
      by_cases h0 : tl = 0
      · subst h0
        have hbyte := Ft.byte rfl
        obtain ⟨b, rfl⟩ := Int.eq_ofNat_of_zero_le hbyte.1
        have Hb1 := Hby rfl
        have hbn : ((b : Int)).toNat = b := by omega
        simp only [Int.ofNat_eq_natCast, hbn] at Hb1
        have hlt1 := lt_of_getD Hb1
        have hcl := code_lt HH.out.fl hlt1 Hb1 (getD_le HH.out.l15 b)
        have hen : encTok lit dist ⟨(b : Int), 0, tk⟩ = enc lit b := by unfold encTok; rw [if_pos rfl]; rfl
        have HEN := Lib.hid hen
        have h15 := getD_le HH.out.l15 b
        have OA := (On.refl wr).alloc (.cells #[.int .i64 (b : Int), .int .i64 0, .int .i64 tk] 117)
        have hc := code_calls g r' bk lit gl ol nl cl ra nl ca b _ (hwr.on OA) (by omega) ((hl2.kp M.kp FL.out).on OA) ((Ra.kp M.kp FA.out).on OA) HNL.out rfl hlt1 h15 hcl (M.out hl2.lt FL.out) (M.out Ra.lt FA.out)
        have HC := Lib.hid hc
        clear hen hc hbn Ft Hby Hlo Hba
        go_wp2_with fail
        refine HC.out.mono ?_
        rintro e w3 ⟨r3, rfl, hw3, M3⟩
        go_wp2_with fail
        refine ⟨⟨k + 1, r3, by go_num, by omega, ?_, M.trans ((mv_on g r' OA).trans M3)⟩, by simp [intOf]; omega⟩
        rw [HST.out, HEN.out]
        exact hw3
      · obtain ⟨l3, l60, k1, k250⟩ := Ft.long h0
        simp only at l3 l60 k1 k250
        have Hl1 := Hlo h0
        have Hb1 := Hba h0
        obtain ⟨tln, rfl⟩ := Int.eq_ofNat_of_zero_le (show 0 ≤ tl by omega)
        obtain ⟨tkn, rfl⟩ := Int.eq_ofNat_of_zero_le (show 0 ≤ tk by omega)
        have h0' : ((tln : Int) == 0) = false := by simp; omega
        have hen : encTok lit dist ⟨tb, (tln : Int), (tkn : Int)⟩ = enc lit (257 + lad longBase tln) ++ (bitsOf (tln - longBase.getD (lad longBase tln) 0) (longBits.getD (lad longBase tln) 0) ++ (enc dist (lad backBase tkn) ++ bitsOf (tkn - backBase.getD (lad backBase tkn) 0) (backBits.getD (lad backBase tkn) 0))) := by
          unfold encTok; rw [if_neg (by simp; omega)]; rfl
        have HEN := Lib.hid hen
        simp only [Int.ofNat_eq_natCast, Int.toNat_natCast] at *
        obtain ⟨a1, a2, a3, a4⟩ := lad_long tln (by omega) (by omega)
        obtain ⟨b1, b2, b3, b4⟩ := lad_back tkn (by omega) (by omega)
        clear hen Ft Hby Hlo Hba
        have OA := (On.refl wr).alloc (.cells #[.int .i64 tb, .int .i64 (tln : Int), .int .i64 (tkn : Int)] 117)
        have BA := Blk.new wr 117 #[.int .i64 tb, .int .i64 (tln : Int), .int .i64 (tkn : Int)]
        have hg1 := hwr.glt
        have hr1 := hwr.lt HNE.out
        have hwa := hwr.on OA
        have HWA := Lib.hid hwa
        have MA := M.trans (mv_on g r' OA)
        have hfL := fun r1 q1 r2 q2 W R1 h => find_calls longBase r1 28 q1 tln (.slice (some ⟨r2, 0, none⟩) 28 q2) W R1 (by decide) (by omega) h (by omega) (by show 3 ≤ tln; omega) long_rising (by omega) ⟨r2, q2, rfl⟩
        have hfB := fun r1 q1 r2 q2 W R1 h => find_calls backBase r1 30 q1 tkn (.slice (some ⟨r2, 0, none⟩) 30 q2) W R1 (by decide) (by omega) h (by omega) (by show 1 ≤ tkn; omega) back_rising (by omega) ⟨r2, q2, rfl⟩
        have hcL := fun W r3 (R : RowO W r3 0 3 (i64s longBase)) => R.cell (i64s_get (show lad longBase tln < longBase.length from a1))
        have hcLb := fun W r3 (R : RowO W r3 0 3 (i64s longBits)) => R.cell (i64s_get (show lad longBase tln < longBits.length from a1))
        have hcB := fun W r3 (R : RowO W r3 0 3 (i64s backBase)) => R.cell (i64s_get (show lad backBase tkn < backBase.length from b1))
        have hcBb := fun W r3 (R : RowO W r3 0 3 (i64s backBits)) => R.cell (i64s_get (show lad backBase tkn < backBits.length from b1))
        simp only [Nat.zero_add] at hcL hcLb hcB hcBb
        have hl1 := lt_of_getD Hl1
        have hd1 := lt_of_getD Hb1
        have hco1 := code_lt HH.out.fl hl1 Hl1 (getD_le HH.out.l15 _)
        have hco2 := code_lt HH.out.fd hd1 Hb1 (getD_le HH.out.d15 _)
        have h15a := getD_le HH.out.l15 (257 + lad longBase tln)
        have h15b := getD_le HH.out.d15 (lad backBase tkn)
        have HFL2 := Lib.hid hfL
        have HFB2 := Lib.hid hfB
        have HCL := Lib.hid hcL
        have HCLB := Lib.hid hcLb
        have HCB := Lib.hid hcB
        have HCBB := Lib.hid hcBb
        clear hfL hfB hcL hcLb hcB hcBb
        have ff1 := field_fst
        have ff2 := field_snd
        go_upto_region 6 with fail
        generalize hB : wr.heap.size = B at *
        have HB := Lib.hid hB
        clear hB
        generalize wr.alloc (.cells #[.int .i64 tb, .int .i64 (tln : Int), .int .i64 (tkn : Int)] 117) = wa at *
        have d1 : wa.cell? ⟨B, 1, none⟩ = some (.int .i64 (tln : Int)) := (BA.cell 1).trans rfl
        have d2 : wa.cell? ⟨B, 2, none⟩ = some (.int .i64 (tkn : Int)) := (BA.cell 2).trans rfl
        have hBw : B < wa.heap.size := BA.lt
        have FBB : RowKit.Hid (B ∉ [g, r']) := Lib.hid (not_in (by omega) (by omega))
        generalize lad longBase tln = kl at *
        generalize lad backBase tkn = kb at *
        generalize longBase.getD kl 0 = xl at *
        generalize longBits.getD kl 0 = yl at *
        generalize backBase.getD kb 0 = xb at *
        generalize backBits.getD kb 0 = yb at *
        generalize hdl : tln - xl = dl at *
        generalize hdb : tkn - xb = db at *
        have wl : IntKind.i64.wrap ((tln : Int) - (xl : Int)) = (dl : Int) := by rw [IntKind.wrap_i64]; omega
        have wb : IntKind.i64.wrap ((tkn : Int) - (xb : Int)) = (db : Int) := by rw [IntKind.wrap_i64]; omega
        have hdl2 : dl ≤ 60 := by omega
        have hdb2 : db ≤ 250 := by omega
        have HDLL := Lib.hid hdl
        have HDBB := Lib.hid hdb
        clear hdl hdb hwa hwr
        have hwa : RowKit.Hid (IW wa g r' bk) := by
          have := HWA.out
          exact Lib.hid this
        go_cut [12] (fun s12 wx => s12 = .int .i64 (kl : Int) ∧ On wa wx)
        case first =>
          have O0 := (On.refl wa).drew
          go_region_held3 (fun w' => w'.cell? ⟨B, 1, none⟩ = some (.int .i64 (tln : Int)))
            (first | go_keep | exact y1 | exact x1)
            (first
              | (go_at_call 109; refine (longs_calls _).mono ?_; rintro e w5 ⟨r1, q1, r2, q2, rfl, R1, R2, h1, h2, f1, f2, O5⟩; have OO := O0.call O5; have x1 : w5.cell? ⟨B, 1, none⟩ = some (.int .i64 (tln : Int)) := (OO.cell (by simpa using hBw)).trans d1)
              | (go_at_call 110; refine (HFL2.out r1 q1 r2 q2 w5 R1 h1).mono ?_; rintro e w6 ⟨rfl, O6⟩; have y1 : w6.cell? ⟨B, 1, none⟩ = some (.int .i64 (tln : Int)) := ((OO.call O6).cell (by simpa using hBw)).trans d1))
          go_wp2_with fail
          go_meet
          exact ⟨rfl, OO.call O6⟩
        case rest =>
          obtain ⟨rfl, OC⟩ := hcut
          have M5 := MA.trans (mv_on g r' OC)
          have hw5 := hwa.out.on OC
          have hc := code_calls g r' bk lit gl ol nl cl ra nl ca (257 + kl) wc hw5 (by omega) (hl2.kp M5.kp FL.out) (Ra.kp M5.kp FA.out) HNL.out rfl hl1 h15a hco1 (M5.out hl2.lt FL.out) (M5.out Ra.lt FA.out)
          rw [show (((257 + kl : Nat) : Int)) = 257 + (kl : Int) from by omega] at hc
          have HC := Lib.hid hc
          clear hc
          go_wp2_with fail
          refine HC.out.mono ?_
          rintro e w7 ⟨r7, rfl, hw7, M7⟩
          have M8 := M5.trans M7
          have hsz7 := Nat.le_trans OC.size M7.kp.size
          have e1 : w7.cell? ⟨B, 1, none⟩ = some (.int .i64 (tln : Int)) := (M7.kp.cell (Nat.lt_of_lt_of_le hBw OC.size) FBB.out).trans ((OC.cell hBw).trans d1)
          have e2 : w7.cell? ⟨B, 2, none⟩ = some (.int .i64 (tkn : Int)) := (M7.kp.cell (Nat.lt_of_lt_of_le hBw OC.size) FBB.out).trans ((OC.cell hBw).trans d2)
          have hBw7 : B < w7.heap.size := Nat.lt_of_lt_of_le hBw hsz7
          have FBw7 : RowKit.Hid (B ∉ [g, r7]) := Lib.hid (M7.out (Nat.lt_of_lt_of_le hBw OC.size) FBB.out)
          have hel := enc_length lit HH.out.l15 (257 + kl)
          have hbb : (bk ++ enc lit (257 + kl)).length ≤ 300000 := by rw [List.length_append]; omega
          have hp1 := fun W h => put_calls g r7 (bk ++ enc lit (257 + kl)) dl yl W h (by omega) (by omega) (by omega)
          have HW7 := Lib.hid hw7
          have HP1 := Lib.hid hp1
          have hgS := hw7.glt
          have hrS := M8.lt (Nat.lt_of_lt_of_le hr OW.size)
          clear hp1 hw7 hel
          generalize hbk2 : bk ++ enc lit (257 + kl) = bk2 at *
          have HBK2 := Lib.hid hbk2
          clear hbk2
          go_upto_region 8 with fail
          go_cut [12] (fun s12 wx => ∃ r4, s12 = .int .i64 (kl : Int) ∧ RowKit.Hid (IW wx g r4 (bk2 ++ bitsOf dl yl)) ∧ Mv g r7 w7 r4 wx)
          case first =>
            have kz : ((kl : Nat) : Int) < 28 := by omega
            have CE : ∀ W, Kp [g, r7] w7 W → W.cell? ⟨B, 1, none⟩ = some (.int .i64 (tln : Int)) := fun W h => (h.cell hBw7 FBw7.out).trans e1
            refine wp_region_held_drew (S := fun W => Kp [g, r7] w7 W) (by kernel_rfl) (Kp.refl _ _).drew (fun hHeld => ?_)
            refine wpAnyH_take (i := 0) (oi := _) (v := ?_) rfl (by kernel_rfl) (by kernel_rfl) (by kernel_rfl) (fun _ _ _ h => h) (Or.inl ⟨by rfl, ?_⟩) (by assumption) ?_
            rotate_left
            · intro w hSw
              go_simp
              first | done | with_reducible rfl
            try simp only [Act.put, List.setIfInBounds_toArray, List.set_cons_zero, List.set_cons_succ]
            refine wpAnyH_take (i := 1) (oi := _) (v := ?_) rfl (by kernel_rfl) (by kernel_rfl) (by kernel_rfl) (fun _ _ _ h => h) (Or.inl ⟨by rfl, ?_⟩) (by assumption) ?_
            rotate_left
            · intro w hSw
              go_simp
              first | done | with_reducible rfl
            try simp only [Act.put, List.setIfInBounds_toArray, List.set_cons_zero, List.set_cons_succ]
            refine wpAnyH_take (i := 2) (oi := _) (v := ?_) rfl (by kernel_rfl) (by kernel_rfl) (by kernel_rfl) (fun _ _ _ h => h) (Or.inl ⟨by rfl, ?_⟩) (by assumption) ?_
            rotate_left
            · intro w hSw
              go_simp
              first | done | with_reducible rfl
            try simp only [Act.put, List.setIfInBounds_toArray, List.set_cons_zero, List.set_cons_succ]
            refine wpAnyH_take (i := 5) (oi := _) (v := ?_) rfl (by kernel_rfl) (by kernel_rfl) (by kernel_rfl) (fun _ _ _ h => h) (Or.inl ⟨by rfl, ?_⟩) (by assumption) ?_
            rotate_left
            · intro w hSw
              go_simp
              first | done | with_reducible rfl
            try simp only [Act.put, List.setIfInBounds_toArray, List.set_cons_zero, List.set_cons_succ]
            refine wpAnyH_take (i := 11) (oi := _) (v := ?_) rfl (by kernel_rfl) (by kernel_rfl) (by kernel_rfl) (fun _ _ _ h => h) (Or.inl ⟨by rfl, ?_⟩) (by assumption) ?_
            rotate_left
            · intro w hSw
              go_simp
              first | done | with_reducible rfl
            try simp only [Act.put, List.setIfInBounds_toArray, List.set_cons_zero, List.set_cons_succ]
            refine wpAnyH_ready (rs := [3]) (by kernel_rfl) (by simp) ?_
            refine AllReadyH.cons (o := _) rfl (fun K hK => ?_) AllReadyH.nil
            go_simp
            refine (longs_calls _).mono ?_
            rintro e wA ⟨ra1, qa1, ra2, qa2, rfl, RA1, RA2, ha1', ha2', fa1, fa2, OA1⟩
            have KA := hHeld.then (Kp.of [g, r7] OA1)
            have CA : ∀ W, Kp [g, r7] wA W → W.cell? ⟨ra1, kl, none⟩ = some (.int .i64 (xl : Int)) := fun W h => (h.cell RA1.lt (show ra1 ∉ [g, r7] from not_in (by have := hHeld.size; omega) (by have := hHeld.size; omega))).trans (HCL.out wA ra1 RA1)
            refine hK.out _ _ KA (fun hHeld => ?_)
            clear hK K
            try simp only [Act.put, List.setIfInBounds_toArray, List.set_cons_zero, List.set_cons_succ]
            have CE2 : ∀ W, Kp [g, r7] wA W → W.cell? ⟨B, 1, none⟩ = some (.int .i64 (tln : Int)) := fun W h => CE W (KA.then h)
            refine wpAnyH_strong (S' := fun W => Kp [g, r7] wA W) (fun W h => KA.then h) ?_
            have hHeld2 : (fun W => Kp [g, r7] wA W) wA := Kp.refl _ _
            refine wpAnyH_take (i := 4) (oi := _) (v := ?_) rfl (by kernel_rfl) (by kernel_rfl) (by kernel_rfl) (fun _ _ _ h => h) (Or.inl ⟨by rfl, ?_⟩) (by assumption) ?_
            rotate_left
            · intro w hSw
              go_simp
              first | done | with_reducible rfl
            try simp only [Act.put, List.setIfInBounds_toArray, List.set_cons_zero, List.set_cons_succ]
            refine wpAnyH_take (i := 6) (oi := _) (v := ?_) rfl (by kernel_rfl) (by kernel_rfl) (by kernel_rfl) (fun _ _ _ h => h) (Or.inl ⟨by rfl, ?_⟩) (by assumption) ?_
            rotate_left
            · intro w hSw
              go_simp
              first | done | with_reducible rfl
            try simp only [Act.put, List.setIfInBounds_toArray, List.set_cons_zero, List.set_cons_succ]
            refine wpAnyH_take (i := 7) (oi := _) (v := ?_) rfl (by kernel_rfl) (by kernel_rfl) (by kernel_rfl) (fun _ _ _ h => h) (Or.inl ⟨by rfl, ?_⟩) (by assumption) ?_
            rotate_left
            · intro w hSw
              go_simp
              first | done | with_reducible rfl
            try simp only [Act.put, List.setIfInBounds_toArray, List.set_cons_zero, List.set_cons_succ]
            refine wpAnyH_take (i := 8) (oi := _) (v := ?_) rfl (by kernel_rfl) (by kernel_rfl) (by kernel_rfl) (fun _ _ _ h => h) (Or.inl ⟨by rfl, ?_⟩) (by assumption) ?_
            rotate_left
            · intro w hSw
              go_simp
              first | done | with_reducible rfl
            try simp only [Act.put, List.setIfInBounds_toArray, List.set_cons_zero, List.set_cons_succ]
            refine wpAnyH_ready (rs := [9]) (by kernel_rfl) (by simp) ?_
            refine AllReadyH.cons (o := _) rfl (fun K hK => ?_) AllReadyH.nil
            go_simp
            refine (longs_calls _).mono ?_
            rintro e wB ⟨rb1, qb1, rb2, qb2, rfl, RB1, RB2, hb1', hb2', fb1, fb2, OB1⟩
            have KB := Kp.of [g, r7] OB1
            have CB : ∀ W, Kp [g, r7] wB W → W.cell? ⟨rb2, kl, none⟩ = some (.int .i64 (yl : Int)) := fun W h => (h.cell RB2.lt (show rb2 ∉ [g, r7] from not_in (by have := KA.size; omega) (by have := KA.size; omega))).trans (HCLB.out wB rb2 RB2)
            refine hK.out _ _ KB (fun hHeld => ?_)
            clear hK K
            try simp only [Act.put, List.setIfInBounds_toArray, List.set_cons_zero, List.set_cons_succ]
            refine wpAnyH_strong (S' := fun W => Kp [g, r7] wB W) (fun W h => KB.then h) ?_
            have hHeld3 : (fun W => Kp [g, r7] wB W) wB := Kp.refl _ _
            refine wpAnyH_take (i := 10) (oi := _) (v := ?_) rfl (by kernel_rfl) (by kernel_rfl) (by kernel_rfl) (fun _ _ _ h => h) (Or.inl ⟨by rfl, ?_⟩) (by assumption) ?_
            rotate_left
            · intro w hSw
              go_simp
              first | done | with_reducible rfl
            try simp only [Act.put, List.setIfInBounds_toArray, List.set_cons_zero, List.set_cons_succ]
            refine wpAnyH_take (i := 12) (oi := _) (v := ?_) rfl (by kernel_rfl) (by kernel_rfl) (by kernel_rfl) (fun _ _ _ h => h) (Or.inl ⟨by rfl, ?_⟩) (by assumption) ?_
            rotate_left
            · intro w hSw
              go_simp
              first | done | with_reducible rfl
            try simp only [Act.put, List.setIfInBounds_toArray, List.set_cons_zero, List.set_cons_succ]
            refine wpAnyH_take (i := 13) (oi := _) (v := ?_) rfl (by kernel_rfl) (by kernel_rfl) (by kernel_rfl) (fun _ _ _ h => h) (Or.inl ⟨by rfl, ?_⟩) (by assumption) ?_
            rotate_left
            · intro w hSw
              go_simp
              first | done | with_reducible rfl
            try simp only [Act.put, List.setIfInBounds_toArray, List.set_cons_zero, List.set_cons_succ]
            refine wpAnyH_ready (rs := [14]) (by kernel_rfl) (by simp) ?_
            refine AllReadyH.cons (o := _) rfl (fun K hK => ?_) AllReadyH.nil
            go_simp
            refine (HP1.out _ (HW7.out.on ((On.refl w7).drew.call OA1 |>.call OB1))).mono ?_
            rintro e w6 ⟨r6, rfl, hw6, M6⟩
            refine hK.out _ _ M6.kp (fun hHeld => ?_)
            clear hK K
            try simp only [Act.put, List.setIfInBounds_toArray, List.set_cons_zero, List.set_cons_succ]
            refine wpAnyH_done (by kernel_rfl) ?_ _
            have OO2 := ((On.refl w7).drew.call OA1).call OB1
            go_wp2_with fail
            go_meet
            exact ⟨r6, rfl, Lib.hid hw6, (mv_on g r7 OO2).trans M6⟩
          case rest =>
            obtain ⟨r4, rfl, HW4, M4⟩ := hcut
            have M9 := M8.trans M4
            have hsz9 := M4.kp.size
            have g2 : wc.cell? ⟨B, 2, none⟩ = some (.int .i64 (tkn : Int)) := (M4.kp.cell hBw7 FBw7.out).trans e2
            have hBwc : B < wc.heap.size := Nat.lt_of_lt_of_le hBw7 hsz9
            have FBwc : RowKit.Hid (B ∉ [g, r4]) := Lib.hid (M4.out hBw7 FBw7.out)
            obtain ⟨w9, hw9⟩ : ∃ w9 : World, w9 = wc := ⟨_, rfl⟩
            subst hw9
            go_upto_region 9 with fail
            go_cut [12] (fun s12 wx => s12 = .int .i64 (kb : Int) ∧ On w9 wx)
            case first =>
              have O0 := (On.refl w9).drew
              go_region_held3 (fun w' => w'.cell? ⟨B, 2, none⟩ = some (.int .i64 (tkn : Int)))
                (first | go_keep | exact y1 | exact x1)
                (first
                  | (go_at_call 111; refine (backs_calls _).mono ?_; rintro e w5 ⟨r1, q1, r2, q2, rfl, R1, R2, h1, h2, f1, f2, O5⟩; have OO := O0.call O5; have x1 : w5.cell? ⟨B, 2, none⟩ = some (.int .i64 (tkn : Int)) := (OO.cell (by simpa using hBwc)).trans g2)
                  | (go_at_call 110; refine (HFB2.out r1 q1 r2 q2 w5 R1 h1).mono ?_; rintro e w6 ⟨rfl, O6⟩; have y1 : w6.cell? ⟨B, 2, none⟩ = some (.int .i64 (tkn : Int)) := ((OO.call O6).cell (by simpa using hBwc)).trans g2))
              go_wp2_with fail
              go_meet
              exact ⟨rfl, OO.call O6⟩
            case rest =>
              obtain ⟨rfl, OC⟩ := hcut
              have M10 := M9.trans (mv_on g r4 OC)
              have hwX := HW4.out.on OC
              have hbb3 : (bk2 ++ bitsOf dl yl).length ≤ 400000 := by rw [List.length_append, bits_length]; omega
              have hc := code_calls g r4 (bk2 ++ bitsOf dl yl) dist gd od nd cd rb nd cb kb wc hwX (by omega) (hd2.kp M10.kp FD.out) (Rb.kp M10.kp FB.out) HND.out rfl hd1 h15b hco2 (M10.out hd2.lt FD.out) (M10.out Rb.lt FB.out)
              have HC2 := Lib.hid hc
              clear hc
              go_wp2_with fail
              refine HC2.out.mono ?_
              rintro e w11 ⟨r11, rfl, hw11, M11⟩
              have M12 := M10.trans M11
              have i2 : w11.cell? ⟨B, 2, none⟩ = some (.int .i64 (tkn : Int)) := (M11.kp.cell (Nat.lt_of_lt_of_le hBwc OC.size) FBwc.out).trans ((OC.cell hBwc).trans g2)
              have hBw11 : B < w11.heap.size := Nat.lt_of_lt_of_le hBwc (Nat.le_trans OC.size M11.kp.size)
              have FBw11 : RowKit.Hid (B ∉ [g, r11]) := Lib.hid (M11.out (Nat.lt_of_lt_of_le hBwc OC.size) FBwc.out)
              have hel := enc_length dist HH.out.d15 kb
              have hbb4 : (bk2 ++ bitsOf dl yl ++ enc dist kb).length ≤ 500000 := by rw [List.length_append]; omega
              have hp2 := fun W h => put_calls g r11 (bk2 ++ bitsOf dl yl ++ enc dist kb) db yb W h (by omega) (by omega) (by omega)
              have HW11 := Lib.hid hw11
              have HP2 := Lib.hid hp2
              have hgS := hw11.glt
              have hrS := M12.lt (Nat.lt_of_lt_of_le hr OW.size)
              clear hp2 hw11 hel
              generalize hbk3 : bk2 ++ bitsOf dl yl ++ enc dist kb = bk3 at *
              have HBK3 := Lib.hid hbk3
              clear hbk3
              go_upto_region 11 with fail
              have kz : ((kb : Nat) : Int) < 30 := by omega
              have CE : ∀ W, Kp [g, r11] w11 W → W.cell? ⟨B, 2, none⟩ = some (.int .i64 (tkn : Int)) := fun W h => (h.cell hBw11 FBw11.out).trans i2
              refine wp_region_held_drew (S := fun W => Kp [g, r11] w11 W) (by kernel_rfl) (Kp.refl _ _).drew (fun hHeld => ?_)
              refine wpAnyH_take (i := 0) (oi := _) (v := ?_) rfl (by kernel_rfl) (by kernel_rfl) (by kernel_rfl) (fun _ _ _ h => h) (Or.inl ⟨by rfl, ?_⟩) (by assumption) ?_
              rotate_left
              · intro w hSw
                go_simp
                first | done | with_reducible rfl
              try simp only [Act.put, List.setIfInBounds_toArray, List.set_cons_zero, List.set_cons_succ]
              refine wpAnyH_take (i := 1) (oi := _) (v := ?_) rfl (by kernel_rfl) (by kernel_rfl) (by kernel_rfl) (fun _ _ _ h => h) (Or.inl ⟨by rfl, ?_⟩) (by assumption) ?_
              rotate_left
              · intro w hSw
                go_simp
                first | done | with_reducible rfl
              try simp only [Act.put, List.setIfInBounds_toArray, List.set_cons_zero, List.set_cons_succ]
              refine wpAnyH_take (i := 2) (oi := _) (v := ?_) rfl (by kernel_rfl) (by kernel_rfl) (by kernel_rfl) (fun _ _ _ h => h) (Or.inl ⟨by rfl, ?_⟩) (by assumption) ?_
              rotate_left
              · intro w hSw
                go_simp
                first | done | with_reducible rfl
              try simp only [Act.put, List.setIfInBounds_toArray, List.set_cons_zero, List.set_cons_succ]
              refine wpAnyH_take (i := 5) (oi := _) (v := ?_) rfl (by kernel_rfl) (by kernel_rfl) (by kernel_rfl) (fun _ _ _ h => h) (Or.inl ⟨by rfl, ?_⟩) (by assumption) ?_
              rotate_left
              · intro w hSw
                go_simp
                first | done | with_reducible rfl
              try simp only [Act.put, List.setIfInBounds_toArray, List.set_cons_zero, List.set_cons_succ]
              refine wpAnyH_take (i := 11) (oi := _) (v := ?_) rfl (by kernel_rfl) (by kernel_rfl) (by kernel_rfl) (fun _ _ _ h => h) (Or.inl ⟨by rfl, ?_⟩) (by assumption) ?_
              rotate_left
              · intro w hSw
                go_simp
                first | done | with_reducible rfl
              try simp only [Act.put, List.setIfInBounds_toArray, List.set_cons_zero, List.set_cons_succ]
              refine wpAnyH_ready (rs := [3]) (by kernel_rfl) (by simp) ?_
              refine AllReadyH.cons (o := _) rfl (fun K hK => ?_) AllReadyH.nil
              go_simp
              refine (backs_calls _).mono ?_
              rintro e wA ⟨ra1, qa1, ra2, qa2, rfl, RA1, RA2, ha1', ha2', fa1, fa2, OA1⟩
              have KA := hHeld.then (Kp.of [g, r11] OA1)
              have CA : ∀ W, Kp [g, r11] wA W → W.cell? ⟨ra1, kb, none⟩ = some (.int .i64 (xb : Int)) := fun W h => (h.cell RA1.lt (show ra1 ∉ [g, r11] from not_in (by have := hHeld.size; omega) (by have := hHeld.size; omega))).trans (HCB.out wA ra1 RA1)
              refine hK.out _ _ KA (fun hHeld => ?_)
              clear hK K
              try simp only [Act.put, List.setIfInBounds_toArray, List.set_cons_zero, List.set_cons_succ]
              have CE2 : ∀ W, Kp [g, r11] wA W → W.cell? ⟨B, 2, none⟩ = some (.int .i64 (tkn : Int)) := fun W h => CE W (KA.then h)
              refine wpAnyH_strong (S' := fun W => Kp [g, r11] wA W) (fun W h => KA.then h) ?_
              have hHeld2 : (fun W => Kp [g, r11] wA W) wA := Kp.refl _ _
              refine wpAnyH_take (i := 4) (oi := _) (v := ?_) rfl (by kernel_rfl) (by kernel_rfl) (by kernel_rfl) (fun _ _ _ h => h) (Or.inl ⟨by rfl, ?_⟩) (by assumption) ?_
              rotate_left
              · intro w hSw
                go_simp
                first | done | with_reducible rfl
              try simp only [Act.put, List.setIfInBounds_toArray, List.set_cons_zero, List.set_cons_succ]
              refine wpAnyH_take (i := 6) (oi := _) (v := ?_) rfl (by kernel_rfl) (by kernel_rfl) (by kernel_rfl) (fun _ _ _ h => h) (Or.inl ⟨by rfl, ?_⟩) (by assumption) ?_
              rotate_left
              · intro w hSw
                go_simp
                first | done | with_reducible rfl
              try simp only [Act.put, List.setIfInBounds_toArray, List.set_cons_zero, List.set_cons_succ]
              refine wpAnyH_take (i := 7) (oi := _) (v := ?_) rfl (by kernel_rfl) (by kernel_rfl) (by kernel_rfl) (fun _ _ _ h => h) (Or.inl ⟨by rfl, ?_⟩) (by assumption) ?_
              rotate_left
              · intro w hSw
                go_simp
                first | done | with_reducible rfl
              try simp only [Act.put, List.setIfInBounds_toArray, List.set_cons_zero, List.set_cons_succ]
              refine wpAnyH_take (i := 8) (oi := _) (v := ?_) rfl (by kernel_rfl) (by kernel_rfl) (by kernel_rfl) (fun _ _ _ h => h) (Or.inl ⟨by rfl, ?_⟩) (by assumption) ?_
              rotate_left
              · intro w hSw
                go_simp
                first | done | with_reducible rfl
              try simp only [Act.put, List.setIfInBounds_toArray, List.set_cons_zero, List.set_cons_succ]
              refine wpAnyH_ready (rs := [9]) (by kernel_rfl) (by simp) ?_
              refine AllReadyH.cons (o := _) rfl (fun K hK => ?_) AllReadyH.nil
              go_simp
              refine (backs_calls _).mono ?_
              rintro e wB ⟨rb1, qb1, rb2, qb2, rfl, RB1, RB2, hb1', hb2', fb1, fb2, OB1⟩
              have KB := Kp.of [g, r11] OB1
              have CB : ∀ W, Kp [g, r11] wB W → W.cell? ⟨rb2, kb, none⟩ = some (.int .i64 (yb : Int)) := fun W h => (h.cell RB2.lt (show rb2 ∉ [g, r11] from not_in (by have := KA.size; omega) (by have := KA.size; omega))).trans (HCBB.out wB rb2 RB2)
              refine hK.out _ _ KB (fun hHeld => ?_)
              clear hK K
              try simp only [Act.put, List.setIfInBounds_toArray, List.set_cons_zero, List.set_cons_succ]
              refine wpAnyH_strong (S' := fun W => Kp [g, r11] wB W) (fun W h => KB.then h) ?_
              have hHeld3 : (fun W => Kp [g, r11] wB W) wB := Kp.refl _ _
              refine wpAnyH_take (i := 10) (oi := _) (v := ?_) rfl (by kernel_rfl) (by kernel_rfl) (by kernel_rfl) (fun _ _ _ h => h) (Or.inl ⟨by rfl, ?_⟩) (by assumption) ?_
              rotate_left
              · intro w hSw
                go_simp
                first | done | with_reducible rfl
              try simp only [Act.put, List.setIfInBounds_toArray, List.set_cons_zero, List.set_cons_succ]
              refine wpAnyH_take (i := 12) (oi := _) (v := ?_) rfl (by kernel_rfl) (by kernel_rfl) (by kernel_rfl) (fun _ _ _ h => h) (Or.inl ⟨by rfl, ?_⟩) (by assumption) ?_
              rotate_left
              · intro w hSw
                go_simp
                first | done | with_reducible rfl
              try simp only [Act.put, List.setIfInBounds_toArray, List.set_cons_zero, List.set_cons_succ]
              refine wpAnyH_take (i := 13) (oi := _) (v := ?_) rfl (by kernel_rfl) (by kernel_rfl) (by kernel_rfl) (fun _ _ _ h => h) (Or.inl ⟨by rfl, ?_⟩) (by assumption) ?_
              rotate_left
              · intro w hSw
                go_simp
                first | done | with_reducible rfl
              try simp only [Act.put, List.setIfInBounds_toArray, List.set_cons_zero, List.set_cons_succ]
              refine wpAnyH_ready (rs := [14]) (by kernel_rfl) (by simp) ?_
              refine AllReadyH.cons (o := _) rfl (fun K hK => ?_) AllReadyH.nil
              go_simp
              refine (HP2.out _ (HW11.out.on ((On.refl w11).drew.call OA1 |>.call OB1))).mono ?_
              rintro e w6 ⟨r6, rfl, hw6, M6⟩
              refine hK.out _ _ M6.kp (fun hHeld => ?_)
              clear hK K
              try simp only [Act.put, List.setIfInBounds_toArray, List.set_cons_zero, List.set_cons_succ]
              refine wpAnyH_done (by kernel_rfl) ?_ _
              have OO2 := ((On.refl w11).drew.call OA1).call OB1
              go_wp2_with fail
              refine ⟨⟨k + 1, r6, by go_num, by omega, ?_, M12.trans ((mv_on g r11 OO2).trans M6)⟩, by simp [intOf]; omega⟩
              rw [HST.out, HEN.out, ← List.append_assoc, ← List.append_assoc, ← List.append_assoc, HBK2.out, HBK3.out]
              exact hw6
    · obtain rfl : k = n := by omega
      have hfl := flat_le HF.out HH.out.l15 HH.out.d15 k
      have htk : l.take k = l := List.take_of_length_le (by rw [HN.out]; exact Nat.le_refl _)
      rw [htk] at hwr hfl
      have hbl : (bs ++ l.flatMap (encTok lit dist)).length ≤ 200000 := by rw [List.length_append]; omega
      have h256 := lt_of_getD HH.out.last
      have hco := code_lt HH.out.fl h256 HH.out.last (getD_le HH.out.l15 _)
      have hc := code_calls g r' _ lit gl ol nl cl ra nl ca 256 wr hwr (by omega) (hl2.kp M.kp FL.out) (Ra.kp M.kp FA.out) HNL.out rfl h256 (getD_le HH.out.l15 _) hco (M.out hl2.lt FL.out) (M.out Ra.lt FA.out)
      have HC := Lib.hid hc
      have HW5 := Lib.hid hwr
      clear hc htk hwr
      go_wp2_with fail
      refine HC.out.mono ?_
      rintro e w7 ⟨r7, rfl, hw7, M7⟩
      go_wp2_with fail
      go_end0
      refine ⟨r7, rfl, ?_, (mv_on g r OW).trans (M.trans M7)⟩
      unfold encToks
      rw [← List.append_assoc]
      exact hw7
end Go.Proofs.YtnadjlejlohgiaaGreatDoor.Wi

