/- Own texts joined: Rp. -/
import Derived.Deep.RegionHeld3
import Derived.Test.YtnadjlejlohgiaaGreatDoorW4
import Derived.Test.YtnadjlejlohgiaaGreatDoorW14
import Derived.Test.YtnadjlejlohgiaaGreatDoorW16
import Derived.Test.YtnadjlejlohgiaaGreatDoorW17
/- The program's reader takes a part that is packed by both codes. Conditions: a reader, a row of bytes, rows of lengths. -/
namespace Go.Proofs.YtnadjlejlohgiaaGreatDoor.Wi
open Go.RowKit Go.Proofs.YtnadjlejlohgiaaGreatDoor.Mem Go.Proofs.YtnadjlejlohgiaaGreatDoor.Bt Go.Proofs.YtnadjlejlohgiaaGreatDoor.Cd Go.Proofs.YtnadjlejlohgiaaGreatDoor.De Go.Proofs.YtnadjlejlohgiaaGreatDoor.En
open Go.Proofs.YtnadjlejlohgiaaGreatDoor.Lz (copy)
set_option linter.unusedVariables false
set_option linter.unusedSimpArgs false
theorem lad_fst (x y : Value) (w : World) : (Instr.field 119 (.agg #[x, y]) 0).run Tryz.prog w = .ok x w := by kernel_rfl
theorem lad_snd (x y : Value) (w : World) : (Instr.field 119 (.agg #[x, y]) 1).run Tryz.prog w = .ok y w := by kernel_rfl
/-- Where the loop stands: what remains to be read. -/
structure Still (lit dist l0 : List Nat) (s : ByteArray) (p : Nat) (b0 : Bool) (l : List Nat) (q : Nat) (bb : Bool) : Prop where mk ::
  out : ∃ D : Dec (List Nat), (∀ l' p' b', AnsO D s q bb l' p' b' → AnsO (packed lit dist 302 l0) s p b0 l' p' b') ∧ l.length ≤ 400 ∧ ((l.length ≤ 300 ∧ ∃ f, 302 ≤ f + l.length ∧ D = packed lit dist f l) ∨ (300 < l.length ∧ D = De.bad))
section
variable {lit dist l0 l : List Nat} {s : ByteArray} {p q : Nat} {b0 bb : Bool}
theorem Still.start (h : l0.length ≤ 300) : Still lit dist l0 s p b0 l0 p b0 := ⟨_, fun _ _ _ h => h, by omega, .inl ⟨h, 302, by omega, rfl⟩⟩
theorem Still.bad (h : Still lit dist l0 s p b0 l q true) : AnsO (packed lit dist 302 l0) s p b0 l q true := by
  obtain ⟨D, h1, _⟩ := h.out
  exact h1 _ _ _ (AnsO.was _ _ _ _ _)
theorem Still.over (h : Still lit dist l0 s p b0 l q bb) (hl : 300 < l.length) (hb : bb = false) : AnsO (packed lit dist 302 l0) s p b0 l q bb := by
  obtain ⟨D, h1, h2, h3⟩ := h.out
  subst hb
  refine h1 _ _ _ ?_
  rcases h3 with ⟨h4, _⟩ | ⟨_, rfl⟩
  · omega
  · exact ⟨fun e => (by cases e), fun _ => ⟨rfl, fun h => (by omega), fun _ => rfl⟩⟩
theorem AnsO.none {d : Dec (List Nat)} {p q : Nat} {l2 : List Nat} {p2 : Nat} {b2 : Bool} {s : ByteArray} (hd : d (rest s p) = Option.none) (h : AnsO (De.bad : Dec (List Nat)) s q false l2 p2 b2) : AnsO d s p false l2 p2 b2 :=
  ⟨fun _ => .inr hd, fun e => ⟨rfl, fun hl => (by have := (h.good e).2.1 hl; cases this), fun _ => hd⟩⟩
/-- A symbol has been taken. -/
theorem Still.sym {x q1 : Nat} {b1 : Bool} (h : Still lit dist l0 s p b0 l q bb) (hl : l.length ≤ 300) (ha : Ans (Cd.sym lit) s q bb x q1 b1) :
    ∃ f, 301 ≤ f + l.length ∧ ∀ l' p' b', AnsO (if x = 256 then ret l else if x < 256 then (if l.length < 300 then packed lit dist f (l ++ [x]) else De.bad) else next (again dist l (x - 257)) fun o => packed lit dist f o) s q1 b1 l' p' b' → AnsO (packed lit dist 302 l0) s p b0 l' p' b' := by
  obtain ⟨D, h1, h2, h3⟩ := h.out
  rcases h3 with ⟨_, f, hf, rfl⟩ | ⟨h4, _⟩
  · obtain ⟨f, rfl⟩ : ∃ g, f = g + 1 := ⟨f - 1, by omega⟩
    exact ⟨f, by omega, fun l' p' b' h5 => h1 _ _ _ (AnsO.next ha h5)⟩
  · omega
end
set_option maxRecDepth 100000 in
set_option maxHeartbeats 2000000 in
theorem rpacked_calls (g r cap n gl ol nl cl gd od nd cd : Nat) (s : ByteArray) (p : Nat) (l lit dist : List Nat) (w : World) (hw : IR w g s p false) (hb : By w r cap l) (hn : l.length = n) (hn2 : n ≤ 300) (hgr : g ≠ r)
    (hl : RowO w gl ol 3 (i64s lit)) (hd : RowO w gd od 3 (i64s dist)) (hnl : lit.length = nl) (hnd : dist.length = nd) (hnlc : nl ≤ cl) (hndc : nd ≤ cd)
    (hl15 : ∀ x ∈ lit, x ≤ 100000) (hd15 : ∀ x ∈ dist, x ≤ 100000) (hlen : nl ≤ 288) (hlen2 : nd ≤ 300) (fl : gl ≠ g ∧ gl ≠ r) (fd : gd ≠ g ∧ gd ≠ r) (hokl : okLens lit = true) (hokd : okLens dist = true) :
    Calls Tryz.prog 90 #[.pointer (some ⟨g, 0, none⟩), .slice (some ⟨r, 0, none⟩) n cap, .slice (some ⟨gl, ol, none⟩) nl cl, .slice (some ⟨gd, od, none⟩) nd cd] w fun e w' => ∃ v, e = .returned v ∧ Out (packed lit dist 302 l) s p false g r w v w' := by
  have HN := Lib.hid hn
  have HNL := Lib.hid hnl
  have HND := Lib.hid hnd
  have HFL := Lib.hid fl
  have HFD := Lib.hid fd
  have HOL := Lib.hid hokl
  have HOD := Lib.hid hokd
  have HXL := Lib.hid hl15
  have HXD := Lib.hid hd15
  have c2 := (hw.out.cell 2).trans rfl
  have hgl := hw.out.lt
  have hrl := hb.lt
  clear hn hnl hnd fl fd hokl hokd hl15 hd15
  go_enter Tryz.func90, Tryz.ntmps90
  go_wp2_with fail
  refine (lensok_calls lit gl ol nl cl w hl HNL.out (by omega) hnlc HXL.out).mono ?_
  rintro e w1 ⟨rfl, O1⟩
  rw [HOL.out]
  go_wp2_with fail
  refine (lensok_calls dist gd od nd cd w1 (hd.on O1) HND.out (by omega) hndc HXD.out).mono ?_
  rintro e w2 ⟨rfl, O2⟩
  rw [HOD.out]
  have O12 := O1.call O2
  go_wp2_with fail
  refine (book_calls lit gl ol nl cl w2 (hl.on O12) HNL.out (by omega) hnlc (ok_le HOL.out) (ok_fits HOL.out)).mono ?_
  rintro e w3 ⟨ma, rfl, Ba, hma, O3⟩
  have O13 := O12.call O3
  go_wp2_with fail
  refine (book_calls dist gd od nd cd w3 (hd.on O13) HND.out (by omega) hndc (ok_le HOD.out) (ok_fits HOD.out)).mono ?_
  rintro e w4 ⟨mb, rfl, Bb, hmb, O4⟩
  have O14 := O13.call O4
  have Ba4 := Ba.kp (Kp.of [] O4) (by simp)
  have hw4 := hw.on O14
  have hb4 := hb.on O14
  have hz3 := O13.size
  have hz2 := O12.size
  have fma : RowKit.Hid (ma ≠ g ∧ ma ≠ r) := Lib.hid ⟨by omega, by omega⟩
  have fmb : RowKit.Hid (mb ≠ g ∧ mb ≠ r) := Lib.hid ⟨by omega, by omega⟩
  clear c2
  go_wp2_with fail
  go_loopw [1] (fun o wr => ∃ (q : Nat) (bb : Bool) (r' cap' : Nat) (l' : List Nat), o = .slice (some ⟨r', 0, none⟩) l'.length cap' ∧ IR wr g s q bb ∧ By wr r' cap' l' ∧ Kp [g, r] w4 wr ∧ (r' = r ∨ w4.heap.size ≤ r') ∧ g ≠ r' ∧ Still lit dist l s p false l' q bb) (fun o _ => match o with | .slice _ m _ => 1000 - m | _ => 0)
  case atStart => exact ⟨p, false, r, cap, l, by rw [HN.out], hw4, hb4, Kp.refl _ _, .inl rfl, hgr, Still.start (by rw [HN.out]; exact hn2)⟩
  case round =>
    obtain ⟨q, bb, r', cap', l', rfl, hr, hB, K, hr', hgr', S⟩ := hrel
    have c2 := (hr.out.cell 2).trans rfl
    cases bb with
    | true =>
      go_wp2_with fail
      go_ret
      refine ⟨_, rfl, ⟨q, true, r', cap', l', hr, (Kp.of _ O14).then K, by have := O14.size; omega, S.bad, fun e => by cases e⟩⟩
    | false =>
    by_cases h3 : 300 < l'.length
    · have h3' : decide ((l'.length : Int) ≤ 300) = false := by simp; omega
      go_wp2_with fail
      go_ret
      refine ⟨_, rfl, ⟨q, false, r', cap', l', hr, (Kp.of _ O14).then K, by have := O14.size; omega, S.over h3 rfl, fun _ => ⟨rfl, hB, ?_⟩⟩⟩
      obtain ⟨_, _, h4, _⟩ := S.out
      omega
    have h3' : (l'.length : Int) ≤ 300 := by omega
    have hgS0 := hr.out.lt
    go_wp2_with fail
    refine (rsym_calls lit ma g nl s q false wr hr (Ba4.kp K (by simp; exact fma.out)) HNL.out fma.out.1).mono ?_
    rintro e w5 ⟨x, q1, b1, rfl, hr5, A5, hx5, K5⟩
    have K45 := K.then (K5.mono (fun y hy => .inl (by simp at hy ⊢; exact .inl hy)))
    obtain ⟨f, hf, HS⟩ := S.sym (by omega) A5
    have hB5 := hB.kp K5 (by simpa using Ne.symm hgr')
    have d2 := (hr5.out.cell 2).trans rfl
    have hr5w : r' = r ∨ w.heap.size ≤ r' := by have := O14.size; omega
    cases b1 with
    | true =>
      go_wp2_with fail
      go_ret
      refine ⟨_, rfl, ⟨q1, true, r', cap', l', hr5, (Kp.of _ O14).then K45, hr5w, HS _ _ _ (AnsO.was _ _ _ _ _), fun e => by cases e⟩⟩
    | false =>
    have HHS := Lib.hid HS
    clear HS
    by_cases h256 : x = 256
    · subst h256
      go_wp2_with fail
      go_ret
      refine ⟨_, rfl, ⟨q1, false, r', cap', l', hr5, (Kp.of _ O14).then K45, hr5w, HHS.out _ _ _ ?_, fun _ => ⟨rfl, hB5, by omega⟩⟩⟩
      first | rw [if_pos rfl] | rw [if_pos trivial]
      exact ⟨fun e => (by cases e), fun _ => ⟨rfl, fun _ => rfl, fun h => absurd h h3⟩⟩
    have h256' : ((x : Int) == 256) = false := by simp; omega
    by_cases hlt : x < 256
    · have hlt' : (x : Int) < 256 := by omega
      have hu8 : IntKind.u8.wrap (x : Int) = (x : Int) := wr_u8 _ (by omega) (by omega)
      go_wp2_with (at_builtin; go_must (refine wpList_byte (x := x) rfl _ _ rfl rfl hB5.out rfl (by omega) ?_); intro r6 cap6 w6 hby6 hr6 hrl6 K6 hc1 hc2)
      have hz5 := K45.size
      have hg6 : g ≠ r6 := by have := hr5.out.lt; rcases hr6 with e | e <;> omega
      refine ⟨⟨q1, false, r6, cap6, l' ++ [x], by rw [List.length_append]; rfl, hr5.kp K6 (by simpa using hgr'), ⟨by rw [List.length_append]; exact hby6⟩, K45.trans K6 (fun y hy => ?_), by omega, hg6, ⟨if l'.length < 300 then packed lit dist f (l' ++ [x]) else De.bad, fun l2 p2 b2 h => HHS.out l2 p2 b2 ?_, by rw [List.length_append]; simp; omega, ?_⟩⟩, by simp; omega⟩
      · simp at hy ⊢; omega
      · rw [if_neg h256, if_pos hlt]; exact h
      · by_cases h300 : l'.length < 300
        · rw [if_pos h300]; exact .inl ⟨by rw [List.length_append]; simp; omega, f, by rw [List.length_append]; simp; omega, rfl⟩
        · rw [if_neg h300]; exact .inr ⟨by rw [List.length_append]; simp; omega, rfl⟩
    have hge : 257 ≤ x := by omega
    have hlt' : ¬ (x : Int) < 256 := by omega
    obtain ⟨k, hk⟩ : ∃ k, x = 257 + k := ⟨x - 257, by omega⟩
    have ek : IntKind.i64.wrap ((x : Int) - 257) = (k : Int) := by rw [IntKind.wrap_i64]; omega
    have HK := Lib.hid hk
    clear hk
    by_cases hk28 : 28 ≤ k
    · have hk28' : (28 : Int) ≤ k := by omega
      have fr : ∀ i, w5.frozen? ⟨g, i, none⟩ = false := hr5.out.frozen
      go_wp2_with fail
      go_ret
      refine ⟨_, rfl, ⟨q1, true, r', cap', l', ⟨hr5.out.set 2 (.bool true), hr5.le, hr5.sz⟩, (Kp.of _ O14).then (K45.set (.inl (by simp)) _), hr5w, HHS.out _ _ _ ?_, fun e => by cases e⟩⟩
      rw [if_neg h256, if_neg hlt, show x - 257 = k from by have := HK.out; omega]
      refine ⟨fun _ => .inr (next_none ?_), fun e => by cases e⟩
      unfold again
      rw [if_pos hk28]; rfl
    have hk28' : ¬ (28 : Int) ≤ k := by omega
    have hk0 : (k : Int) < 28 := by omega
    have hcL := fun W r3 (R : RowO W r3 0 3 (i64s longBase)) => R.cell (i64s_get (show k < longBase.length from by rw [show longBase.length = 28 from rfl]; omega))
    have hcLb := fun W r3 (R : RowO W r3 0 3 (i64s longBits)) => R.cell (i64s_get (show k < longBits.length from by rw [show longBits.length = 28 from rfl]; omega))
    simp only [Nat.zero_add] at hcL hcLb
    have hyl : longBits.getD k 0 ≤ 5 := by
      have : ∀ k, k < 28 → longBits.getD k 0 ≤ 5 := by decide
      exact this k (by omega)
    have hxl : longBase.getD k 0 ≤ 300 ∧ 3 ≤ longBase.getD k 0 := by
      have : ∀ k, k < 28 → longBase.getD k 0 ≤ 300 ∧ 3 ≤ longBase.getD k 0 := by decide
      exact this k (by omega)
    obtain ⟨xl, hxl0⟩ : ∃ xl, longBase.getD k 0 = xl := ⟨_, rfl⟩
    obtain ⟨yl, hyl0⟩ : ∃ yl, longBits.getD k 0 = yl := ⟨_, rfl⟩
    rw [hxl0] at hcL hxl
    rw [hyl0] at hcLb hyl
    have HXL0 := Lib.hid hxl0
    have HYL0 := Lib.hid hyl0
    have HCL := Lib.hid hcL
    have HCLB := Lib.hid hcLb
    have hga := fun W h => get_calls g yl s q1 false W h (by omega)
    have hv1 := numAt_lt s q1 yl
    have hp5 : 2 ^ yl ≤ 2 ^ 5 := Nat.pow_le_pow_right (by omega) hyl
    have HGA := Lib.hid hga
    have HR5 := Lib.hid hr5
    have hgS := hr5.out.lt
    clear hxl0 hyl0 hcL hcLb hga
    generalize hnv : numAt s q1 yl = nv at *
    have HNV := Lib.hid hnv
    obtain ⟨Lx, hLx⟩ : ∃ Lx, xl + nv = Lx := ⟨_, rfl⟩
    have ea : IntKind.i64.wrap ((xl : Int) + (nv : Int)) = (Lx : Int) := by rw [IntKind.wrap_i64]; omega
    have HLX := Lib.hid hLx
    clear hnv hLx
    have ff1 := lad_fst
    have ff2 := lad_snd
    go_upto_region 14 with fail
    go_cut [12] (fun s12 wx => ∃ (tb q2 : Nat) (b2 : Bool), s12 = .pointer (some ⟨tb, 0, none⟩) ∧ w5.heap.size ≤ tb ∧ Blk wx tb 117 #[.int .i64 0, .int .i64 (Lx : Int), .int .i64 0] ∧ q2 = min (q1 + yl) (8 * s.size) ∧ b2 = (false || decide (8 * s.size < q1 + yl)) ∧ IR wx g s q2 b2 ∧ Kp [g] w5 wx)
    case first =>
        refine wp_region_held_drew (S := fun W => Kp [g] w5 W) (by kernel_rfl) (Kp.refl _ _).drew (fun hHeld => ?_)
        have Ow0 := (On.refl w5).drew
        refine Tk.tk 2 ?_ rfl (.inl ⟨by rfl, ?_⟩) ?_
        rotate_left
        · intro w hSw; go_simp; first | done | with_reducible rfl
        try simp only [Act.put, Tk.s3]
        refine Tk.tk 3 ?_ rfl (.inl ⟨by rfl, ?_⟩) ?_
        rotate_left
        · intro w hSw; go_simp; first | done | with_reducible rfl
        try simp only [Act.put, Tk.s3]
        refine Tk.tk 6 ?_ rfl (.inl ⟨by rfl, ?_⟩) ?_
        rotate_left
        · intro w hSw; go_simp; first | done | with_reducible rfl
        try simp only [Act.put, Tk.s3]
        refine Tk.tk 9 ?_ rfl (.inl ⟨by rfl, ?_⟩) ?_
        rotate_left
        · intro w hSw; go_simp; first | done | with_reducible rfl
        try simp only [Act.put, Tk.s3]
        refine Tk.tk 10 ?_ rfl (.inl ⟨by rfl, ?_⟩) ?_
        rotate_left
        · intro w hSw; go_simp; first | done | with_reducible rfl
        try simp only [Act.put, Tk.s3]
        refine wpAnyH_strong (S' := fun W => Kp [g] w5.drew W) (fun W h => Kp.then (Kp.of [g] Ow0) h) ?_
        have hHeldN : (fun W => Kp [g] w5.drew W) w5.drew := Kp.refl _ _
        generalize w5.drew = wD at *
        refine wpAnyH_ready (rs := [0, 16]) (by kernel_rfl) (by simp) ?_
        refine AllReadyH.cons (o := _) rfl (fun K hK => ?_) (AllReadyH.cons (o := _) rfl (fun K hK => ?_) AllReadyH.nil)
        · go_simp
          refine (longs_calls _).mono ?_
          rintro e wA ⟨rA1, qA1, rA2, qA2, rfl, RA1, RA2, hA1, hA2, fA1, fA2, OA⟩
          have CA : ∀ W, Kp [g] wA W → W.cell? ⟨rA1, k, none⟩ = some (.int .i64 (xl : Int)) := fun W h => (h.cell RA1.lt (show rA1 ∉ [g] by simp; have := hgS; have := Ow0.size; omega)).trans (HCL.out wA rA1 RA1)
          have OwA := Ow0.call OA
          refine hK.out _ _ (Kp.of [g] OA) (fun hHeld => ?_)
          clear hK K
          try simp only [Act.put, Tk.s3]
          refine wpAnyH_strong (S' := fun W => Kp [g] wA W) (fun W h => Kp.then (Kp.of [g] OA) h) ?_
          have hHeldN : (fun W => Kp [g] wA W) wA := Kp.refl _ _
          refine Tk.tk 1 ?_ rfl (.inl ⟨by rfl, ?_⟩) ?_
          rotate_left
          · intro w hSw; go_simp; first | done | with_reducible rfl
          try simp only [Act.put, Tk.s3]
          refine Tk.tk 4 ?_ rfl (.inl ⟨by rfl, ?_⟩) ?_
          rotate_left
          · intro w hSw; go_simp; first | done | with_reducible rfl
          try simp only [Act.put, Tk.s3]
          refine Tk.tk 5 ?_ rfl (.inl ⟨by rfl, ?_⟩) ?_
          rotate_left
          · intro w hSw; go_simp; first | done | with_reducible rfl
          try simp only [Act.put, Tk.s3]
          refine wpAnyH_ready (rs := [7, 16]) (by kernel_rfl) (by simp) ?_
          refine AllReadyH.cons (o := _) rfl (fun K hK => ?_) (AllReadyH.cons (o := _) rfl (fun K hK => ?_) AllReadyH.nil)
          · go_simp
            refine (longs_calls _).mono ?_
            rintro e wB ⟨rB1, qB1, rB2, qB2, rfl, RB1, RB2, hB1, hB2, fB1, fB2, OB⟩
            have CB : ∀ W, Kp [g] wB W → W.cell? ⟨rB2, k, none⟩ = some (.int .i64 (yl : Int)) := fun W h => (h.cell RB2.lt (show rB2 ∉ [g] by simp; have := hgS; have := OwA.size; omega)).trans (HCLB.out wB rB2 RB2)
            have OwB := OwA.call OB
            refine hK.out _ _ (Kp.of [g] OB) (fun hHeld => ?_)
            clear hK K
            try simp only [Act.put, Tk.s3]
            refine wpAnyH_strong (S' := fun W => Kp [g] wB W) (fun W h => Kp.then (Kp.of [g] OB) h) ?_
            have hHeldN : (fun W => Kp [g] wB W) wB := Kp.refl _ _
            refine Tk.tk 8 ?_ rfl (.inl ⟨by rfl, ?_⟩) ?_
            rotate_left
            · intro w hSw; go_simp; first | done | with_reducible rfl
            try simp only [Act.put, Tk.s3]
            refine Tk.tk 11 ?_ rfl (.inl ⟨by rfl, ?_⟩) ?_
            rotate_left
            · intro w hSw; go_simp; first | done | with_reducible rfl
            try simp only [Act.put, Tk.s3]
            refine Tk.tk 12 ?_ rfl (.inl ⟨by rfl, ?_⟩) ?_
            rotate_left
            · intro w hSw; go_simp; first | done | with_reducible rfl
            try simp only [Act.put, Tk.s3]
            refine wpAnyH_ready (rs := [13, 16]) (by kernel_rfl) (by simp) ?_
            refine AllReadyH.cons (o := _) rfl (fun K hK => ?_) (AllReadyH.cons (o := _) rfl (fun K hK => ?_) AllReadyH.nil)
            · go_simp
              refine (HGA.out _ (HR5.out.on OwB)).mono ?_
              rintro e wC ⟨rfl, hrC, KC⟩
              have KwC : Kp [g] w5 wC := (Kp.of [g] OwB).then KC
              refine hK.out _ _ (KC) (fun hHeld => ?_)
              clear hK K
              try simp only [Act.put, Tk.s3]
              refine wpAnyH_strong (S' := fun W => Kp [g] wC W) (fun W h => Kp.then (KC) h) ?_
              have hHeldN : (fun W => Kp [g] wC W) wC := Kp.refl _ _
              refine Tk.tk 14 ?_ rfl (.inl ⟨by rfl, ?_⟩) ?_
              rotate_left
              · intro w hSw; go_simp; first | done | with_reducible rfl
              try simp only [Act.put, Tk.s3]
              refine Tk.tk 15 ?_ rfl (.inl ⟨by rfl, ?_⟩) ?_
              rotate_left
              · intro w hSw; go_simp; first | done | with_reducible rfl
              try simp only [Act.put, Tk.s3]
              refine Tk.rd 16 rfl fun K hK => ?_
              go_simp
              have OT := (On.refl wC).alloc (.cells #[.int .i64 0, .int .i64 0, .int .i64 0] 117)
              have BT := Blk.new wC 117 #[.int .i64 0, .int .i64 0, .int .i64 0]
              obtain ⟨tb, htb⟩ : ∃ tb, tb = wC.heap.size := ⟨_, rfl⟩
              rw [← htb] at BT ⊢
              generalize wC.alloc (.cells #[.int .i64 0, .int .i64 0, .int .i64 0] 117) = wT at *
              have hTw : w5.heap.size ≤ tb := by have := KwC.size; omega
              have hTc : wC.heap.size ≤ tb := Nat.le_of_eq htb.symm
              clear htb
              have hrE := hrC.on OT
              have KwE := KwC.then (Kp.of [g] OT)
              have BE := BT
              refine hK.out _ _ (Kp.of [g] OT) (fun hHeld => ?_)
              clear hK K
              try simp only [Act.put, Tk.s3]
              refine wpAnyH_strong (S' := fun W => Kp [g, tb] wT W) (fun W h => Kp.trans (Kp.of [g] OT) h (fun x hx => by simp at hx ⊢; rcases hx with rfl | rfl; exact .inl rfl; exact .inr hTc)) ?_
              have hHeldN : (fun W => Kp [g, tb] wT W) wT := Kp.refl _ _
              obtain ⟨wE, hwE⟩ : ∃ wE, wE = wT := ⟨_, rfl⟩
              subst hwE
              have ce0 : wE.cell? ⟨tb, 0, none⟩ = some (.int .i64 0) := (BE.cell 0).trans rfl
              have ce1 : wE.cell? ⟨tb, 1, none⟩ = some (.int .i64 0) := (BE.cell 1).trans rfl
              have ce2 : wE.cell? ⟨tb, 2, none⟩ = some (.int .i64 0) := (BE.cell 2).trans rfl
              have fe : ∀ i, wE.frozen? ⟨tb, i, none⟩ = false := BE.frozen
              refine Tk.rd 17 rfl fun K hK => ?_
              go_simp
              have KS : Kp [tb] wE (((wE.setCell ⟨tb, 0, none⟩ (.int .i64 0)).setCell ⟨tb, 1, none⟩ (.int .i64 (Lx : Int))).setCell ⟨tb, 2, none⟩ (.int .i64 0)) := (((Kp.refl _ _).set (.inl (by simp)) _).set (.inl (by simp)) _).set (.inl (by simp)) _
              have BS := ((BE.set 0 (.int .i64 0)).set 1 (.int .i64 (Lx : Int))).set 2 (.int .i64 0)
              have htg : tb ≠ g := by have := hgS; omega
              have hrS := hrE.kp KS (by simp; exact Ne.symm htg)
              have KwS : Kp [g] w5 (((wE.setCell ⟨tb, 0, none⟩ (.int .i64 0)).setCell ⟨tb, 1, none⟩ (.int .i64 (Lx : Int))).setCell ⟨tb, 2, none⟩ (.int .i64 0)) := KwE.trans KS (fun y hy => by simp at hy; subst hy; exact .inr hTw)
              refine hK.out _ _ (KS.mono (fun y hy => .inl (by simp at hy ⊢; exact .inr hy))) (fun hHeld => ?_)
              clear hK K
              refine wpAnyH_done (by kernel_rfl) ?_ _
              go_wp2_with fail
              go_meet
              exact ⟨tb, _, _, rfl, hTw, BS, rfl, rfl, hrS, KwS⟩
            · go_simp
              have OT := (On.refl wB).alloc (.cells #[.int .i64 0, .int .i64 0, .int .i64 0] 117)
              have BT := Blk.new wB 117 #[.int .i64 0, .int .i64 0, .int .i64 0]
              obtain ⟨tb, htb⟩ : ∃ tb, tb = wB.heap.size := ⟨_, rfl⟩
              rw [← htb] at BT ⊢
              generalize wB.alloc (.cells #[.int .i64 0, .int .i64 0, .int .i64 0] 117) = wT at *
              have hTw : w5.heap.size ≤ tb := by have := OwB.size; omega
              have hTc : wB.heap.size ≤ tb := Nat.le_of_eq htb.symm
              clear htb
              have OwT := OwB.call OT
              refine hK.out _ _ (Kp.of [g] OT) (fun hHeld => ?_)
              clear hK K
              try simp only [Act.put, Tk.s3]
              refine wpAnyH_strong (S' := fun W => Kp [g, tb] wT W) (fun W h => Kp.trans (Kp.of [g] OT) h (fun x hx => by simp at hx ⊢; rcases hx with rfl | rfl; exact .inl rfl; exact .inr hTc)) ?_
              have hHeldN : (fun W => Kp [g, tb] wT W) wT := Kp.refl _ _
              refine Tk.rd 13 rfl fun K hK => ?_
              go_simp
              refine (HGA.out _ (HR5.out.on OwT)).mono ?_
              rintro e wC ⟨rfl, hrC, KC⟩
              have KwC : Kp [g] w5 wC := (Kp.of [g] OwT).then KC
              have BT := KC.blk BT (by simp; have := hgS; omega)
              refine hK.out _ _ (KC.mono (fun y hy => .inl (by simp at hy ⊢; exact .inl hy))) (fun hHeld => ?_)
              clear hK K
              try simp only [Act.put, Tk.s3]
              refine wpAnyH_strong (S' := fun W => Kp [g, tb] wC W) (fun W h => Kp.then (KC.mono (fun y hy => .inl (by simp at hy ⊢; exact .inl hy))) h) ?_
              have hHeldN : (fun W => Kp [g, tb] wC W) wC := Kp.refl _ _
              refine Tk.tk 14 ?_ rfl (.inl ⟨by rfl, ?_⟩) ?_
              rotate_left
              · intro w hSw; go_simp; first | done | with_reducible rfl
              try simp only [Act.put, Tk.s3]
              refine Tk.tk 15 ?_ rfl (.inl ⟨by rfl, ?_⟩) ?_
              rotate_left
              · intro w hSw; go_simp; first | done | with_reducible rfl
              try simp only [Act.put, Tk.s3]
              obtain ⟨wE, hwE⟩ : ∃ wE, wE = wC := ⟨_, rfl⟩
              have hrE := hrC
              have KwE := KwC
              have BE := BT
              rw [← hwE] at *
              clear hwE
              have ce0 : wE.cell? ⟨tb, 0, none⟩ = some (.int .i64 0) := (BE.cell 0).trans rfl
              have ce1 : wE.cell? ⟨tb, 1, none⟩ = some (.int .i64 0) := (BE.cell 1).trans rfl
              have ce2 : wE.cell? ⟨tb, 2, none⟩ = some (.int .i64 0) := (BE.cell 2).trans rfl
              have fe : ∀ i, wE.frozen? ⟨tb, i, none⟩ = false := BE.frozen
              refine Tk.rd 17 rfl fun K hK => ?_
              go_simp
              have KS : Kp [tb] wE (((wE.setCell ⟨tb, 0, none⟩ (.int .i64 0)).setCell ⟨tb, 1, none⟩ (.int .i64 (Lx : Int))).setCell ⟨tb, 2, none⟩ (.int .i64 0)) := (((Kp.refl _ _).set (.inl (by simp)) _).set (.inl (by simp)) _).set (.inl (by simp)) _
              have BS := ((BE.set 0 (.int .i64 0)).set 1 (.int .i64 (Lx : Int))).set 2 (.int .i64 0)
              have htg : tb ≠ g := by have := hgS; omega
              have hrS := hrE.kp KS (by simp; exact Ne.symm htg)
              have KwS : Kp [g] w5 (((wE.setCell ⟨tb, 0, none⟩ (.int .i64 0)).setCell ⟨tb, 1, none⟩ (.int .i64 (Lx : Int))).setCell ⟨tb, 2, none⟩ (.int .i64 0)) := KwE.trans KS (fun y hy => by simp at hy; subst hy; exact .inr hTw)
              refine hK.out _ _ (KS.mono (fun y hy => .inl (by simp at hy ⊢; exact .inr hy))) (fun hHeld => ?_)
              clear hK K
              refine wpAnyH_done (by kernel_rfl) ?_ _
              go_wp2_with fail
              go_meet
              exact ⟨tb, _, _, rfl, hTw, BS, rfl, rfl, hrS, KwS⟩
          · go_simp
            have OT := (On.refl wA).alloc (.cells #[.int .i64 0, .int .i64 0, .int .i64 0] 117)
            have BT := Blk.new wA 117 #[.int .i64 0, .int .i64 0, .int .i64 0]
            obtain ⟨tb, htb⟩ : ∃ tb, tb = wA.heap.size := ⟨_, rfl⟩
            rw [← htb] at BT ⊢
            generalize wA.alloc (.cells #[.int .i64 0, .int .i64 0, .int .i64 0] 117) = wT at *
            have hTw : w5.heap.size ≤ tb := by have := OwA.size; omega
            have hTc : wA.heap.size ≤ tb := Nat.le_of_eq htb.symm
            clear htb
            have OwT := OwA.call OT
            refine hK.out _ _ (Kp.of [g] OT) (fun hHeld => ?_)
            clear hK K
            try simp only [Act.put, Tk.s3]
            refine wpAnyH_strong (S' := fun W => Kp [g, tb] wT W) (fun W h => Kp.trans (Kp.of [g] OT) h (fun x hx => by simp at hx ⊢; rcases hx with rfl | rfl; exact .inl rfl; exact .inr hTc)) ?_
            have hHeldN : (fun W => Kp [g, tb] wT W) wT := Kp.refl _ _
            refine Tk.rd 7 rfl fun K hK => ?_
            go_simp
            refine (longs_calls _).mono ?_
            rintro e wB ⟨rB1, qB1, rB2, qB2, rfl, RB1, RB2, hB1, hB2, fB1, fB2, OB⟩
            have CB : ∀ W, Kp [g, tb] wB W → W.cell? ⟨rB2, k, none⟩ = some (.int .i64 (yl : Int)) := fun W h => (h.cell RB2.lt (show rB2 ∉ [g, tb] by simp; have := hgS; have := OwT.size; have := BT.lt; omega)).trans (HCLB.out wB rB2 RB2)
            have OwB := OwT.call OB
            have BT := BT.call OB.out
            refine hK.out _ _ (Kp.of [g, tb] OB) (fun hHeld => ?_)
            clear hK K
            try simp only [Act.put, Tk.s3]
            refine wpAnyH_strong (S' := fun W => Kp [g, tb] wB W) (fun W h => Kp.then (Kp.of [g, tb] OB) h) ?_
            have hHeldN : (fun W => Kp [g, tb] wB W) wB := Kp.refl _ _
            refine Tk.tk 8 ?_ rfl (.inl ⟨by rfl, ?_⟩) ?_
            rotate_left
            · intro w hSw; go_simp; first | done | with_reducible rfl
            try simp only [Act.put, Tk.s3]
            refine Tk.tk 11 ?_ rfl (.inl ⟨by rfl, ?_⟩) ?_
            rotate_left
            · intro w hSw; go_simp; first | done | with_reducible rfl
            try simp only [Act.put, Tk.s3]
            refine Tk.tk 12 ?_ rfl (.inl ⟨by rfl, ?_⟩) ?_
            rotate_left
            · intro w hSw; go_simp; first | done | with_reducible rfl
            try simp only [Act.put, Tk.s3]
            refine Tk.rd 13 rfl fun K hK => ?_
            go_simp
            refine (HGA.out _ (HR5.out.on OwB)).mono ?_
            rintro e wC ⟨rfl, hrC, KC⟩
            have KwC : Kp [g] w5 wC := (Kp.of [g] OwB).then KC
            have BT := KC.blk BT (by simp; have := hgS; omega)
            refine hK.out _ _ (KC.mono (fun y hy => .inl (by simp at hy ⊢; exact .inl hy))) (fun hHeld => ?_)
            clear hK K
            try simp only [Act.put, Tk.s3]
            refine wpAnyH_strong (S' := fun W => Kp [g, tb] wC W) (fun W h => Kp.then (KC.mono (fun y hy => .inl (by simp at hy ⊢; exact .inl hy))) h) ?_
            have hHeldN : (fun W => Kp [g, tb] wC W) wC := Kp.refl _ _
            refine Tk.tk 14 ?_ rfl (.inl ⟨by rfl, ?_⟩) ?_
            rotate_left
            · intro w hSw; go_simp; first | done | with_reducible rfl
            try simp only [Act.put, Tk.s3]
            refine Tk.tk 15 ?_ rfl (.inl ⟨by rfl, ?_⟩) ?_
            rotate_left
            · intro w hSw; go_simp; first | done | with_reducible rfl
            try simp only [Act.put, Tk.s3]
            obtain ⟨wE, hwE⟩ : ∃ wE, wE = wC := ⟨_, rfl⟩
            have hrE := hrC
            have KwE := KwC
            have BE := BT
            rw [← hwE] at *
            clear hwE
            have ce0 : wE.cell? ⟨tb, 0, none⟩ = some (.int .i64 0) := (BE.cell 0).trans rfl
            have ce1 : wE.cell? ⟨tb, 1, none⟩ = some (.int .i64 0) := (BE.cell 1).trans rfl
            have ce2 : wE.cell? ⟨tb, 2, none⟩ = some (.int .i64 0) := (BE.cell 2).trans rfl
            have fe : ∀ i, wE.frozen? ⟨tb, i, none⟩ = false := BE.frozen
            refine Tk.rd 17 rfl fun K hK => ?_
            go_simp
            have KS : Kp [tb] wE (((wE.setCell ⟨tb, 0, none⟩ (.int .i64 0)).setCell ⟨tb, 1, none⟩ (.int .i64 (Lx : Int))).setCell ⟨tb, 2, none⟩ (.int .i64 0)) := (((Kp.refl _ _).set (.inl (by simp)) _).set (.inl (by simp)) _).set (.inl (by simp)) _
            have BS := ((BE.set 0 (.int .i64 0)).set 1 (.int .i64 (Lx : Int))).set 2 (.int .i64 0)
            have htg : tb ≠ g := by have := hgS; omega
            have hrS := hrE.kp KS (by simp; exact Ne.symm htg)
            have KwS : Kp [g] w5 (((wE.setCell ⟨tb, 0, none⟩ (.int .i64 0)).setCell ⟨tb, 1, none⟩ (.int .i64 (Lx : Int))).setCell ⟨tb, 2, none⟩ (.int .i64 0)) := KwE.trans KS (fun y hy => by simp at hy; subst hy; exact .inr hTw)
            refine hK.out _ _ (KS.mono (fun y hy => .inl (by simp at hy ⊢; exact .inr hy))) (fun hHeld => ?_)
            clear hK K
            refine wpAnyH_done (by kernel_rfl) ?_ _
            go_wp2_with fail
            go_meet
            exact ⟨tb, _, _, rfl, hTw, BS, rfl, rfl, hrS, KwS⟩
        · go_simp
          have OT := (On.refl wD).alloc (.cells #[.int .i64 0, .int .i64 0, .int .i64 0] 117)
          have BT := Blk.new wD 117 #[.int .i64 0, .int .i64 0, .int .i64 0]
          obtain ⟨tb, htb⟩ : ∃ tb, tb = wD.heap.size := ⟨_, rfl⟩
          rw [← htb] at BT ⊢
          generalize wD.alloc (.cells #[.int .i64 0, .int .i64 0, .int .i64 0] 117) = wT at *
          have hTw : w5.heap.size ≤ tb := by have := Ow0.size; omega
          have hTc : wD.heap.size ≤ tb := Nat.le_of_eq htb.symm
          clear htb
          have OwT := Ow0.call OT
          refine hK.out _ _ (Kp.of [g] OT) (fun hHeld => ?_)
          clear hK K
          try simp only [Act.put, Tk.s3]
          refine wpAnyH_strong (S' := fun W => Kp [g, tb] wT W) (fun W h => Kp.trans (Kp.of [g] OT) h (fun x hx => by simp at hx ⊢; rcases hx with rfl | rfl; exact .inl rfl; exact .inr hTc)) ?_
          have hHeldN : (fun W => Kp [g, tb] wT W) wT := Kp.refl _ _
          refine Tk.rd 0 rfl fun K hK => ?_
          go_simp
          refine (longs_calls _).mono ?_
          rintro e wA ⟨rA1, qA1, rA2, qA2, rfl, RA1, RA2, hA1, hA2, fA1, fA2, OA⟩
          have CA : ∀ W, Kp [g, tb] wA W → W.cell? ⟨rA1, k, none⟩ = some (.int .i64 (xl : Int)) := fun W h => (h.cell RA1.lt (show rA1 ∉ [g, tb] by simp; have := hgS; have := OwT.size; have := BT.lt; omega)).trans (HCL.out wA rA1 RA1)
          have OwA := OwT.call OA
          have BT := BT.call OA.out
          refine hK.out _ _ (Kp.of [g, tb] OA) (fun hHeld => ?_)
          clear hK K
          try simp only [Act.put, Tk.s3]
          refine wpAnyH_strong (S' := fun W => Kp [g, tb] wA W) (fun W h => Kp.then (Kp.of [g, tb] OA) h) ?_
          have hHeldN : (fun W => Kp [g, tb] wA W) wA := Kp.refl _ _
          refine Tk.tk 1 ?_ rfl (.inl ⟨by rfl, ?_⟩) ?_
          rotate_left
          · intro w hSw; go_simp; first | done | with_reducible rfl
          try simp only [Act.put, Tk.s3]
          refine Tk.tk 4 ?_ rfl (.inl ⟨by rfl, ?_⟩) ?_
          rotate_left
          · intro w hSw; go_simp; first | done | with_reducible rfl
          try simp only [Act.put, Tk.s3]
          refine Tk.tk 5 ?_ rfl (.inl ⟨by rfl, ?_⟩) ?_
          rotate_left
          · intro w hSw; go_simp; first | done | with_reducible rfl
          try simp only [Act.put, Tk.s3]
          refine Tk.rd 7 rfl fun K hK => ?_
          go_simp
          refine (longs_calls _).mono ?_
          rintro e wB ⟨rB1, qB1, rB2, qB2, rfl, RB1, RB2, hB1, hB2, fB1, fB2, OB⟩
          have CB : ∀ W, Kp [g, tb] wB W → W.cell? ⟨rB2, k, none⟩ = some (.int .i64 (yl : Int)) := fun W h => (h.cell RB2.lt (show rB2 ∉ [g, tb] by simp; have := hgS; have := OwA.size; have := BT.lt; omega)).trans (HCLB.out wB rB2 RB2)
          have OwB := OwA.call OB
          have BT := BT.call OB.out
          refine hK.out _ _ (Kp.of [g, tb] OB) (fun hHeld => ?_)
          clear hK K
          try simp only [Act.put, Tk.s3]
          refine wpAnyH_strong (S' := fun W => Kp [g, tb] wB W) (fun W h => Kp.then (Kp.of [g, tb] OB) h) ?_
          have hHeldN : (fun W => Kp [g, tb] wB W) wB := Kp.refl _ _
          refine Tk.tk 8 ?_ rfl (.inl ⟨by rfl, ?_⟩) ?_
          rotate_left
          · intro w hSw; go_simp; first | done | with_reducible rfl
          try simp only [Act.put, Tk.s3]
          refine Tk.tk 11 ?_ rfl (.inl ⟨by rfl, ?_⟩) ?_
          rotate_left
          · intro w hSw; go_simp; first | done | with_reducible rfl
          try simp only [Act.put, Tk.s3]
          refine Tk.tk 12 ?_ rfl (.inl ⟨by rfl, ?_⟩) ?_
          rotate_left
          · intro w hSw; go_simp; first | done | with_reducible rfl
          try simp only [Act.put, Tk.s3]
          refine Tk.rd 13 rfl fun K hK => ?_
          go_simp
          refine (HGA.out _ (HR5.out.on OwB)).mono ?_
          rintro e wC ⟨rfl, hrC, KC⟩
          have KwC : Kp [g] w5 wC := (Kp.of [g] OwB).then KC
          have BT := KC.blk BT (by simp; have := hgS; omega)
          refine hK.out _ _ (KC.mono (fun y hy => .inl (by simp at hy ⊢; exact .inl hy))) (fun hHeld => ?_)
          clear hK K
          try simp only [Act.put, Tk.s3]
          refine wpAnyH_strong (S' := fun W => Kp [g, tb] wC W) (fun W h => Kp.then (KC.mono (fun y hy => .inl (by simp at hy ⊢; exact .inl hy))) h) ?_
          have hHeldN : (fun W => Kp [g, tb] wC W) wC := Kp.refl _ _
          refine Tk.tk 14 ?_ rfl (.inl ⟨by rfl, ?_⟩) ?_
          rotate_left
          · intro w hSw; go_simp; first | done | with_reducible rfl
          try simp only [Act.put, Tk.s3]
          refine Tk.tk 15 ?_ rfl (.inl ⟨by rfl, ?_⟩) ?_
          rotate_left
          · intro w hSw; go_simp; first | done | with_reducible rfl
          try simp only [Act.put, Tk.s3]
          obtain ⟨wE, hwE⟩ : ∃ wE, wE = wC := ⟨_, rfl⟩
          have hrE := hrC
          have KwE := KwC
          have BE := BT
          rw [← hwE] at *
          clear hwE
          have ce0 : wE.cell? ⟨tb, 0, none⟩ = some (.int .i64 0) := (BE.cell 0).trans rfl
          have ce1 : wE.cell? ⟨tb, 1, none⟩ = some (.int .i64 0) := (BE.cell 1).trans rfl
          have ce2 : wE.cell? ⟨tb, 2, none⟩ = some (.int .i64 0) := (BE.cell 2).trans rfl
          have fe : ∀ i, wE.frozen? ⟨tb, i, none⟩ = false := BE.frozen
          refine Tk.rd 17 rfl fun K hK => ?_
          go_simp
          have KS : Kp [tb] wE (((wE.setCell ⟨tb, 0, none⟩ (.int .i64 0)).setCell ⟨tb, 1, none⟩ (.int .i64 (Lx : Int))).setCell ⟨tb, 2, none⟩ (.int .i64 0)) := (((Kp.refl _ _).set (.inl (by simp)) _).set (.inl (by simp)) _).set (.inl (by simp)) _
          have BS := ((BE.set 0 (.int .i64 0)).set 1 (.int .i64 (Lx : Int))).set 2 (.int .i64 0)
          have htg : tb ≠ g := by have := hgS; omega
          have hrS := hrE.kp KS (by simp; exact Ne.symm htg)
          have KwS : Kp [g] w5 (((wE.setCell ⟨tb, 0, none⟩ (.int .i64 0)).setCell ⟨tb, 1, none⟩ (.int .i64 (Lx : Int))).setCell ⟨tb, 2, none⟩ (.int .i64 0)) := KwE.trans KS (fun y hy => by simp at hy; subst hy; exact .inr hTw)
          refine hK.out _ _ (KS.mono (fun y hy => .inl (by simp at hy ⊢; exact .inr hy))) (fun hHeld => ?_)
          clear hK K
          refine wpAnyH_done (by kernel_rfl) ?_ _
          go_wp2_with fail
          go_meet
          exact ⟨tb, _, _, rfl, hTw, BS, rfl, rfl, hrS, KwS⟩
    case rest =>
      obtain ⟨tb, q2, b2, rfl, hTw, BT0, hq2, hb2, hr6, K6⟩ := hcut
      have A6 : RowKit.Hid (Ans (num yl) s q1 false nv q2 b2) := Lib.hid (by rw [hq2, hb2, ← HNV.out]; exact ans_num HR5.out.le)
      have K46 := K45.then (K6.mono (fun y hy => .inl (by simp at hy ⊢; exact .inl hy)))
      have hB6 := hB5.kp K6 (by simpa using Ne.symm hgr')
      have hz5 := K45.size
      have hz6 := K6.size
      have htg : tb ≠ g := by omega
      have hrl5 := hB5.lt
      have htr : tb ≠ r' := by omega
      clear hq2 hb2
      obtain ⟨w6, hw6⟩ : ∃ w6 : World, w6 = wc := ⟨_, rfl⟩
      subst hw6
      go_wp2_with fail
      refine (rsym_calls dist mb g nd s q2 b2 w6 hr6 (Bb.kp K46 (by simp; exact fmb.out)) HND.out fmb.out.1).mono ?_
      rintro e w7 ⟨j, q3, b3, rfl, hr7, A7, hj7, K7⟩
      have K47 := K46.then (K7.mono (fun y hy => .inl (by simp at hy ⊢; exact .inl hy)))
      have BT := K7.blk BT0 (by simpa using htg)
      have hB7 := hB6.kp K7 (by simpa using Ne.symm hgr')
      have d7 := (hr7.out.cell 2).trans rfl
      have HAG : RowKit.Hid (∀ o p' b', Ans (if 30 ≤ j then De.bad else next (num (backBits.getD j 0)) fun y => De.put l' Lx (backBase.getD j 0 + y)) s q3 b3 o p' b' → Ans (again dist l' k) s q1 false o p' b') := Lib.hid (fun o p' b' h => by
        unfold again
        rw [if_neg hk28, HYL0.out, HXL0.out]
        refine Ans.next A6.out (Ans.next A7 ?_)
        rw [HLX.out]
        exact h)
      have HTO : RowKit.Hid (∀ (D : Dec (List Nat)) l2 p2 b2, AnsO (next (again dist l' k) fun o => packed lit dist f o) s q1 false l2 p2 b2 → AnsO (packed lit dist 302 l) s p false l2 p2 b2) := Lib.hid (fun D l2 p2 b2 h => by
        refine HHS.out l2 p2 b2 ?_
        rw [if_neg h256, if_neg hlt, show x - 257 = k from by have := HK.out; omega]
        exact h)
      have hzz : w4.heap.size ≤ tb := by omega
      clear HGA HCL HCLB ff1 ff2 d2 ea ek
      by_cases hj30 : 30 ≤ j
      · have hj30' : (30 : Int) ≤ j := by omega
        have fr : ∀ i, w7.frozen? ⟨g, i, none⟩ = false := hr7.out.frozen
        go_wp2_with fail
        go_ret
        refine ⟨_, rfl, ⟨q3, true, r', cap', l', ⟨hr7.out.set 2 (.bool true), hr7.le, hr7.sz⟩, (Kp.of _ O14).then (K47.set (.inl (by simp)) _), hr5w, HTO.out De.bad _ _ _ (AnsO.next (HAG.out [] q3 true (by rw [if_pos hj30]; exact Ans.fail _ _ _ _ _)) (AnsO.was _ _ _ _ _)), fun e => by cases e⟩⟩
      have hj30' : ¬ (30 : Int) ≤ j := by omega
      have hj0 : (j : Int) < 30 := by omega
      have hcB := fun W r3 (R : RowO W r3 0 3 (i64s backBase)) => R.cell (i64s_get (show j < backBase.length from by rw [show backBase.length = 30 from rfl]; omega))
      have hcBb := fun W r3 (R : RowO W r3 0 3 (i64s backBits)) => R.cell (i64s_get (show j < backBits.length from by rw [show backBits.length = 30 from rfl]; omega))
      simp only [Nat.zero_add] at hcB hcBb
      have hyb : backBits.getD j 0 ≤ 13 := by
        have : ∀ k, k < 30 → backBits.getD k 0 ≤ 13 := by decide
        exact this j (by omega)
      have hxb : backBase.getD j 0 ≤ 30000 := by
        have : ∀ k, k < 30 → backBase.getD k 0 ≤ 30000 := by decide
        exact this j (by omega)
      have HAG2 : RowKit.Hid (∀ o p' b', Ans (next (num (backBits.getD j 0)) fun y => De.put l' Lx (backBase.getD j 0 + y)) s q3 b3 o p' b' → Ans (again dist l' k) s q1 false o p' b') := Lib.hid (fun o p' b' h => HAG.out o p' b' (by rw [if_neg hj30]; exact h))
      clear HAG
      generalize backBase.getD j 0 = xb at *
      generalize backBits.getD j 0 = yb at *
      have HCB := Lib.hid hcB
      have HCBB := Lib.hid hcBb
      have hgb := fun W h => get_calls g yb s q3 b3 W h (by omega)
      have hv2 := numAt_lt s q3 yb
      have hp13 : 2 ^ yb ≤ 2 ^ 13 := Nat.pow_le_pow_right (by omega) hyb
      have HGB := Lib.hid hgb
      have HR7 := Lib.hid hr7
      have hgS := hr7.out.lt
      have A8 := Lib.hid (ans_num (n := yb) (b := b3) hr7.le)
      clear hcB hcBb hgb
      generalize hnv2 : numAt s q3 yb = nv2 at *
      obtain ⟨Bx, hBx⟩ : ∃ Bx, xb + nv2 = Bx := ⟨_, rfl⟩
      have ea : IntKind.i64.wrap ((xb : Int) + (nv2 : Int)) = (Bx : Int) := by rw [IntKind.wrap_i64]; omega
      have HBX := Lib.hid hBx
      have hBl : Bx ≤ 100000 := by omega
      have hLl : 1 ≤ Lx ∧ Lx ≤ 100000 := by have := HLX.out; omega
      clear hnv2 hBx
      have ff1 := lad_fst
      have ff2 := lad_snd
      go_upto_region 19 with fail
      refine wp_region_held_drew (S := fun W => Kp [g, tb] w7 W) (by kernel_rfl) (Kp.refl _ _).drew (fun hHeld => ?_)
      have Ow0 := (On.refl w7).drew
      have BT := BT.drew
      refine Tk.tk 2 ?_ rfl (.inl ⟨by rfl, ?_⟩) ?_
      rotate_left
      · intro w hSw; go_simp; first | done | with_reducible rfl
      try simp only [Act.put, Tk.s3]
      refine Tk.tk 5 ?_ rfl (.inl ⟨by rfl, ?_⟩) ?_
      rotate_left
      · intro w hSw; go_simp; first | done | with_reducible rfl
      try simp only [Act.put, Tk.s3]
      refine Tk.tk 8 ?_ rfl (.inl ⟨by rfl, ?_⟩) ?_
      rotate_left
      · intro w hSw; go_simp; first | done | with_reducible rfl
      try simp only [Act.put, Tk.s3]
      refine wpAnyH_strong (S' := fun W => Kp [g, tb] w7.drew W) (fun W h => Kp.then (Kp.of [g, tb] Ow0) h) ?_
      have hHeldN : (fun W => Kp [g, tb] w7.drew W) w7.drew := Kp.refl _ _
      generalize w7.drew = wD at *
      refine Tk.rd 0 rfl fun K hK => ?_
      go_simp
      refine (backs_calls _).mono ?_
      rintro e wA ⟨rA1, qA1, rA2, qA2, rfl, RA1, RA2, hA1, hA2, fA1, fA2, OA⟩
      have CA : ∀ W, Kp [g, tb] wA W → W.cell? ⟨rA1, j, none⟩ = some (.int .i64 (xb : Int)) := fun W h => (h.cell RA1.lt (show rA1 ∉ [g, tb] by simp; have := hgS; have := Ow0.size; have := BT.lt; omega)).trans (HCB.out wA rA1 RA1)
      have OwA := Ow0.call OA
      have BT := BT.call OA.out
      refine hK.out _ _ (Kp.of [g, tb] OA) (fun hHeld => ?_)
      clear hK K
      try simp only [Act.put, Tk.s3]
      refine wpAnyH_strong (S' := fun W => Kp [g, tb] wA W) (fun W h => Kp.then (Kp.of [g, tb] OA) h) ?_
      have hHeldN : (fun W => Kp [g, tb] wA W) wA := Kp.refl _ _
      refine Tk.tk 1 ?_ rfl (.inl ⟨by rfl, ?_⟩) ?_
      rotate_left
      · intro w hSw; go_simp; first | done | with_reducible rfl
      try simp only [Act.put, Tk.s3]
      refine Tk.tk 3 ?_ rfl (.inl ⟨by rfl, ?_⟩) ?_
      rotate_left
      · intro w hSw; go_simp; first | done | with_reducible rfl
      try simp only [Act.put, Tk.s3]
      refine Tk.tk 4 ?_ rfl (.inl ⟨by rfl, ?_⟩) ?_
      rotate_left
      · intro w hSw; go_simp; first | done | with_reducible rfl
      try simp only [Act.put, Tk.s3]
      refine Tk.rd 6 rfl fun K hK => ?_
      go_simp
      refine (backs_calls _).mono ?_
      rintro e wB ⟨rB1, qB1, rB2, qB2, rfl, RB1, RB2, hB1, hB2, fB1, fB2, OB⟩
      have CB : ∀ W, Kp [g, tb] wB W → W.cell? ⟨rB2, j, none⟩ = some (.int .i64 (yb : Int)) := fun W h => (h.cell RB2.lt (show rB2 ∉ [g, tb] by simp; have := hgS; have := OwA.size; have := BT.lt; omega)).trans (HCBB.out wB rB2 RB2)
      have OwB := OwA.call OB
      have BT := BT.call OB.out
      refine hK.out _ _ (Kp.of [g, tb] OB) (fun hHeld => ?_)
      clear hK K
      try simp only [Act.put, Tk.s3]
      refine wpAnyH_strong (S' := fun W => Kp [g, tb] wB W) (fun W h => Kp.then (Kp.of [g, tb] OB) h) ?_
      have hHeldN : (fun W => Kp [g, tb] wB W) wB := Kp.refl _ _
      refine Tk.tk 7 ?_ rfl (.inl ⟨by rfl, ?_⟩) ?_
      rotate_left
      · intro w hSw; go_simp; first | done | with_reducible rfl
      try simp only [Act.put, Tk.s3]
      refine Tk.tk 9 ?_ rfl (.inl ⟨by rfl, ?_⟩) ?_
      rotate_left
      · intro w hSw; go_simp; first | done | with_reducible rfl
      try simp only [Act.put, Tk.s3]
      refine Tk.tk 10 ?_ rfl (.inl ⟨by rfl, ?_⟩) ?_
      rotate_left
      · intro w hSw; go_simp; first | done | with_reducible rfl
      try simp only [Act.put, Tk.s3]
      refine Tk.rd 11 rfl fun K hK => ?_
      go_simp
      refine (HGB.out _ (HR7.out.on OwB)).mono ?_
      rintro e wC ⟨rfl, hrC, KC⟩
      have KwC : Kp [g] w7 wC := (Kp.of [g] OwB).then KC
      have BT := KC.blk BT (by simp; have := hgS; omega)
      refine hK.out _ _ (KC.mono (fun y hy => .inl (by simp at hy ⊢; exact .inl hy))) (fun hHeld => ?_)
      clear hK K
      try simp only [Act.put, Tk.s3]
      refine wpAnyH_strong (S' := fun W => Kp [g, tb] wC W) (fun W h => Kp.then (KC.mono (fun y hy => .inl (by simp at hy ⊢; exact .inl hy))) h) ?_
      have hHeldN : (fun W => Kp [g, tb] wC W) wC := Kp.refl _ _
      refine Tk.tk 12 ?_ rfl (.inl ⟨by rfl, ?_⟩) ?_
      rotate_left
      · intro w hSw; go_simp; first | done | with_reducible rfl
      try simp only [Act.put, Tk.s3]
      refine Tk.tk 13 ?_ rfl (.inl ⟨by rfl, ?_⟩) ?_
      rotate_left
      · intro w hSw; go_simp; first | done | with_reducible rfl
      try simp only [Act.put, Tk.s3]
      obtain ⟨wE, hwE⟩ : ∃ wE, wE = wC := ⟨_, rfl⟩
      have hrE := hrC
      have KwE := KwC
      have BE := BT
      rw [← hwE] at *
      clear hwE
      have ce2 : wE.cell? ⟨tb, 2, none⟩ = some (.int .i64 0) := (BE.cell 2).trans rfl
      have fe : ∀ i, wE.frozen? ⟨tb, i, none⟩ = false := BE.frozen
      refine Tk.rd 14 rfl fun K hK => ?_
      go_simp
      have KS : Kp [tb] wE (wE.setCell ⟨tb, 2, none⟩ (.int .i64 (Bx : Int))) := (Kp.refl _ _).set (.inl (by simp)) _
      have BS := BE.set 2 (.int .i64 (Bx : Int))
      have hrS := hrE.kp KS (by simp; exact Ne.symm htg)
      have KwS : Kp [g, tb] w7 (wE.setCell ⟨tb, 2, none⟩ (.int .i64 (Bx : Int))) := (KwE.mono (fun y hy => .inl (by simp at hy ⊢; exact .inl hy))).then (KS.mono (fun y hy => .inl (by simp at hy ⊢; exact .inr hy)))
      refine hK.out _ _ (KS.mono (fun y hy => .inl (by simp at hy ⊢; exact .inr hy))) (fun hHeld => ?_)
      clear hK K
      refine wpAnyH_done (by kernel_rfl) ?_ _
      clear ce2 fe hHeld
      generalize wE.setCell ⟨tb, 2, none⟩ (.int .i64 (Bx : Int)) = wS at *
      have e0 : wS.cell? ⟨tb, 0, none⟩ = some (.int .i64 0) := (BS.cell 0).trans rfl
      have e1 : wS.cell? ⟨tb, 1, none⟩ = some (.int .i64 (Lx : Int)) := (BS.cell 1).trans rfl
      have e2 : wS.cell? ⟨tb, 2, none⟩ = some (.int .i64 (Bx : Int)) := (BS.cell 2).trans rfl
      have hB8 := hB7.kp KwS (by simp; exact ⟨Ne.symm hgr', Ne.symm htr⟩)
      have K48 : Kp [g, r] w4 wS := K47.trans KwS (fun y hy => by simp at hy ⊢; omega)
      have hz8 := K48.size
      generalize hq4 : min (q3 + yb) (8 * s.size) = q4 at *
      generalize hb4 : (b3 || decide (8 * s.size < q3 + yb)) = b4 at *
      have HPUT : RowKit.Hid (∀ o p' b', Ans (De.put l' Lx Bx) s q4 b4 o p' b' → Ans (again dist l' k) s q1 false o p' b') := Lib.hid (fun o p' b' h => HAG2.out o p' b' (Ans.next A8.out (by rw [HBX.out]; exact h)))
      have hpt : De.put l' Lx Bx = if backOk l'.length Lx Bx then (if (copy l' Bx Lx).length ≤ 300 then ret (copy l' Bx Lx) else De.bad) else De.bad := by
        unfold De.put
        rw [add_back hLl.1]
        by_cases h : backOk l'.length Lx Bx
        · rw [if_pos h, if_pos h]
        · rw [if_neg h, if_neg h]
      have HPT := Lib.hid hpt
      have hgl8 := hrS.out.lt
      clear hpt hq4 hb4 BS BT HAG2 A8 ea ff1 ff2 HCB HCBB HGB KwE KwS KS CA CB
      go_wp2_with fail
      refine (iadd_calls r' cap' l'.length Lx Bx l' wS hB8 rfl (by omega) hLl.1 hLl.2 hBl).mono ?_
      rintro e w9 (⟨hok, r9, cap9, rfl, hB9, M9⟩ | ⟨hno, rfl, O9⟩)
      · have hr9 := hrS.kp M9.kp (by simpa using hgr')
        have d9 := (hr9.out.cell 2).trans rfl
        have K49 : Kp [g, r] w4 w9 := K48.trans M9.kp (fun y hy => by simp at hy ⊢; omega)
        have hcl := Go.Proofs.YtnadjlejlohgiaaGreatDoor.Lz.copy_length l' Bx Lx
        cases b4 with
        | true =>
          have fr : ∀ i, w9.frozen? ⟨g, i, none⟩ = false := hr9.out.frozen
          go_wp2_with fail
          go_ret
          refine ⟨_, rfl, ⟨q4, true, r', cap', l', ⟨hr9.out.set 2 (.bool true), hr9.le, hr9.sz⟩, (Kp.of _ O14).then (K49.set (.inl (by simp)) _), hr5w, HTO.out De.bad _ _ _ (AnsO.next (HPUT.out [] q4 true ⟨fun _ => .inl rfl, fun e => by cases e⟩) (AnsO.was _ _ _ _ _)), fun e => by cases e⟩⟩
        | false =>
          have hLx60 : Lx ≤ 60 := by unfold backOk at hok; omega
          go_wp2_with fail
          refine ⟨⟨q4, false, r9, cap9, copy l' Bx Lx, by rw [hcl], hr9, hB9, K49, by rcases M9.at_ with e | e <;> omega, by rcases M9.at_ with e | e <;> omega, ?_⟩, by simp; omega⟩
          by_cases h300 : (copy l' Bx Lx).length ≤ 300
          · refine ⟨packed lit dist f (copy l' Bx Lx), fun l2 p2 b2 h => HTO.out De.bad l2 p2 b2 (AnsO.next (HPUT.out (copy l' Bx Lx) q4 false ?_) h), by omega, .inl ⟨h300, f, by omega, rfl⟩⟩
            rw [HPT.out, if_pos hok, if_pos h300]
            exact Ans.ret _ _ _ _
          · refine ⟨De.bad, fun l2 p2 b2 h => HTO.out De.bad l2 p2 b2 (AnsO.none ?_ h), by omega, .inr ⟨by omega, rfl⟩⟩
            have ha := HPUT.out [] q4 true (by rw [HPT.out, if_pos hok, if_neg h300]; exact Ans.fail _ _ _ _ _)
            rcases ha.bad rfl with e | e
            · cases e
            · exact next_none e
      · have hr9 := hrS.on O9
        have K49 : Kp [g, r] w4 w9 := K48.then (Kp.of _ O9)
        have fr : ∀ i, w9.frozen? ⟨g, i, none⟩ = false := hr9.out.frozen
        have d9 := (hr9.out.cell 2).trans rfl
        go_wp2_with fail
        go_ret
        refine ⟨_, rfl, ⟨q4, true, r', cap', l', ⟨hr9.out.set 2 (.bool true), hr9.le, hr9.sz⟩, (Kp.of _ O14).then (K49.set (.inl (by simp)) _), hr5w, HTO.out De.bad _ _ _ (AnsO.next (HPUT.out [] q4 true ?_) (AnsO.was _ _ _ _ _)), fun e => by cases e⟩⟩
        rw [HPT.out, if_neg hno]
        exact Ans.fail _ _ _ _ _
end Go.Proofs.YtnadjlejlohgiaaGreatDoor.Wi

