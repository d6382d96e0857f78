/- Own texts joined: Sp, Lt. -/
import Derived.Test.YtnadjlejlohgiaaGreatDoorZ12
import Derived.Test.YtnadjlejlohgiaaGreatDoorZ22
import Derived.Test.YtnadjlejlohgiaaGreatDoorZ25
import Derived.Test.YtnadjlejlohgiaaGreatDoorZ26
import Derived.Test.YtnadjlejlohgiaaGreatDoorZ28
import Derived.Test.YtnadjlejlohgiaaGreatDoorZ29
/- The specification unpacks a text: part, l5Get, FlateGet, FlateKind. No condition. -/
namespace Go.Proofs.YtnadjlejlohgiaaGreatDoor.Wi
open Go.RowKit Go.Proofs.YtnadjlejlohgiaaGreatDoor.Mem Go.Proofs.YtnadjlejlohgiaaGreatDoor.Bt Go.Proofs.YtnadjlejlohgiaaGreatDoor.Cd Go.Proofs.YtnadjlejlohgiaaGreatDoor.De
set_option linter.unusedVariables false
set_option linter.unusedSimpArgs false
theorem got_none' {x : ByteArray} (h : flate (chars x) = none) : gotOf x = .tuple #[.string ⟨#[]⟩, .int .i64 0, .bool false] := by
  unfold gotOf
  rw [h]
/-- What part leaves. -/
structure PartOut (s : ByteArray) (p : Nat) (l : List Nat) (g r : Nat) (w : World) (e : Ending) (w' : World) : Prop where mk ::
  out : ∃ (last : Bool) (p' : Nat) (b' : Bool) (r' cap' : Nat) (l' : List Nat), e = .returned (.tuple #[.slice (some ⟨r', 0, none⟩) l'.length cap', .bool last]) ∧ SR w' g s p' b' ∧ By w' r' cap' l' ∧ Kp [g, r] w w' ∧ (r' = r ∨ w.heap.size ≤ r') ∧ l.length ≤ l'.length ∧ l'.length ≤ l.length + 400 ∧ (b' = false → p + 3 ≤ p') ∧
    (l.length ≤ 300 → Goes s l p false → (b' = true → whole (rest s 0) = Option.none) ∧ (b' = false → 300 < l'.length → whole (rest s 0) = Option.none) ∧ (b' = false → l'.length ≤ 300 → Goes s l' p' last))
/-- The head of a part has been read. -/
structure Head (s : ByteArray) (p lb t q2 : Nat) (b2 : Bool) : Prop where mk ::
  out : ∃ (q1 : Nat) (b1 : Bool), Ans (num 1) s p false lb q1 b1 ∧ Ans (num 2) s q1 b1 t q2 b2 ∧ (b1 = false → q1 = p + 1) ∧ (b2 = false → q2 = q1 + 2)
theorem Head.far {s : ByteArray} {p lb t q2 : Nat} {b2 : Bool} (h : Head s p lb t q2 b2) (e : b2 = false) : q2 = p + 3 := by
  obtain ⟨q1, b1, A1, A2, e1, e2⟩ := h.out
  have := e2 e
  have := e1 (A2.good e).1
  omega
theorem Head.part {s : ByteArray} {p lb t q2 p' : Nat} {b2 b' : Bool} {l l' : List Nat} (h : Head s p lb t q2 b2) (hp : p ≤ 5600) (hq2 : q2 ≤ 8 * s.size) (hp' : p' ≤ 8 * s.size) (A : AnsO (body t l) s q2 b2 l' p' b') (G : Goes s l p false) :
    (b' = true → whole (rest s 0) = Option.none) ∧ (b' = false → 300 < l'.length → whole (rest s 0) = Option.none) ∧ (b' = false → l'.length ≤ 300 → Goes s l' p' (lb == 1)) := by
  obtain ⟨q1, b1, A1, A2, e1, e2⟩ := h.out
  exact G.step hp A1 A2 A e1 e2 (fun e h => suf_le (De.Loc.body t l) ((A.good e).2.1 h) hq2 hp')
theorem Head.of_out {s : ByteArray} {p lb t q2 : Nat} {b2 : Bool} {l : List Nat} {g r : Nat} {w w2 w3 : World} {e : Ending} (H : Head s p lb t q2 b2) (hp : p ≤ 5600) (hq2 : q2 ≤ 8 * s.size) (K : Kp [g] w w2) (h : SOut (body t l) s q2 b2 l g r w2 e w3) :
    ∃ (r' cap' : Nat) (l' : List Nat), e = .returned (.slice (some ⟨r', 0, none⟩) l'.length cap') ∧ PartOut s p l g r w (.returned (.tuple #[.slice (some ⟨r', 0, none⟩) l'.length cap', .bool (lb == 1)])) w3 := by
  obtain ⟨p', b', r', cap', l', rfl, hr, hB, K2, hr', A, h1, h2, h3⟩ := h.out
  have hz := K.size
  refine ⟨r', cap', l', rfl, ⟨lb == 1, p', b', r', cap', l', rfl, hr, hB, (K.mono (fun y hy => .inl (by simp at hy ⊢; exact .inl hy))).then K2, by omega, h1, h2, fun e => ?_, fun hl G => H.part hp hq2 hr.le (A hl) G⟩⟩
  obtain ⟨c1, c2⟩ := h3 e
  have f := H.far c1
  rcases c2 with c | c
  · omega
  · have := suf_le (De.Loc.body t l) (((A (by omega)).good e).2.1 c) hq2 hr.le
    omega
set_option maxRecDepth 100000 in
set_option maxHeartbeats 2000000 in
theorem spart_calls (g r cap n : Nat) (s : ByteArray) (p : Nat) (l : List Nat) (w : World) (hw : SR w g s p false) (hb : By w r cap l) (hn : l.length = n) (hn2 : n ≤ 80000000) (hgr : g ≠ r) (hs : s.size ≤ 700) :
    Calls Tryz.prog 135 #[.pointer (some ⟨g, 0, none⟩), .slice (some ⟨r, 0, none⟩) n cap] w fun e w' => PartOut s p l g r w e w' := by
  have HN := Lib.hid hn
  clear hn
  have hgl := hw.out.lt
  have hrl := hb.lt
  have hple := hw.le
  have HE := Lib.hid (sbit_calls g s p false w hw)
  have A1 := Lib.hid (ans_num (n := 1) (b := false) hw.le)
  have hv1 := numAt_lt s p 1
  obtain ⟨q1, hq1⟩ : ∃ q1, min (p + 1) (8 * s.size) = q1 := ⟨_, rfl⟩
  obtain ⟨b1, hb1⟩ : ∃ b1, (false || decide (8 * s.size < p + 1)) = b1 := ⟨_, rfl⟩
  have E1 : RowKit.Hid (b1 = false → q1 = p + 1) := Lib.hid (fun e => by rw [e] at hb1; simp at hb1; omega)
  rw [hq1, hb1] at A1 HE
  clear hq1 hb1
  generalize numAt s p 1 = lb at *
  go_enter Tryz.func135, Tryz.ntmps135
  go_wp2_with fail
  refine HE.out.mono ?_
  rintro e w3 ⟨rfl, hr3, K3⟩
  have HE2 := Lib.hid (snum_calls g 2 s q1 b1 w3 hr3 (by omega))
  have A2 := Lib.hid (ans_num (n := 2) (b := b1) hr3.le)
  have hv2 := numAt_lt s q1 2
  obtain ⟨q2, hq2⟩ : ∃ q2, min (q1 + 2) (8 * s.size) = q2 := ⟨_, rfl⟩
  obtain ⟨b2, hb2⟩ : ∃ b2, (b1 || decide (8 * s.size < q1 + 2)) = b2 := ⟨_, rfl⟩
  have E2 : RowKit.Hid (b2 = false → q2 = q1 + 2) := Lib.hid (fun e => by rw [e] at hb2; simp at hb2; omega)
  rw [hq2, hb2] at A2 HE2
  clear hq2 hb2
  generalize numAt s q1 2 = t at *
  go_wp2_with fail
  refine HE2.out.mono ?_
  rintro e w4 ⟨rfl, hr4, K4⟩
  have K34 := K3.then K4
  have hB4 := hb.kp K34 (by simpa using Ne.symm hgr)
  have H : RowKit.Hid (Head s p lb t q2 b2) := Lib.hid ⟨q1, b1, A1.out, A2.out, E1.out, E2.out⟩
  have hq2le := hr4.le
  have hz4 := K34.size
  have hlb : ((lb : Int) == 1) = (lb == 1) := by rw [Bool.eq_iff_iff]; simp; omega
  have HLB := Lib.hid hlb
  clear A1 A2 E1 E2 HE HE2 hlb K3 K4
  by_cases ht0 : t = 0
  · subst ht0
    go_wp2_with fail
    refine (sstored_calls g r cap n s q2 b2 l w4 hr4 hB4 HN.out (by omega) hgr).mono ?_
    intro e w5 ho
    obtain ⟨r', cap', l', rfl, PO⟩ := H.out.of_out (by omega) hq2le K34 ho
    have HPO := Lib.hid PO
    clear PO ho
    go_wp2_with fail
    go_ret2
    have := HPO.out
    rw [← HLB.out] at this
    exact this
  by_cases ht1 : t = 1
  · subst ht1
    go_wp2_with fail
    refine (sfixed_calls w4).mono ?_
    rintro e w5 ⟨ra, ca, rfl, Na, ha1, ha2, O5⟩
    rw [fixLit_length] at Na ⊢
    go_wp2_with fail
    refine (sfives_calls w5).mono ?_
    rintro e w6 ⟨rb, cb, rfl, Nb, hb1, hb2, O6⟩
    rw [fixDist_length] at Nb ⊢
    have Na6 := Na.on O6
    have O56 := O5.call O6
    have hz5 := O5.size
    have hz6 := O6.size
    have hr6 := hr4.on O56
    have hB6 := hB4.on O56
    go_wp2_with fail
    refine (srdtoks_calls g r cap n ra 0 288 ca rb 0 32 cb s q2 b2 l fixLit fixDist w6 hr6 hB6 HN.out hgr Na6.row.1.toO Nb.row.1.toO fixLit_length fixDist_length Na.row.2.2.1 Nb.row.2.2.1 (by omega) (by omega) ⟨by omega, by omega⟩ ⟨by omega, by omega⟩).mono ?_
    intro e w7 ho
    have ho' : SOut (body 1 l) s q2 b2 l g r w6 e w7 := ho
    obtain ⟨r', cap', l', rfl, PO⟩ := H.out.of_out (by omega) hq2le (K34.then (Kp.of _ O56)) ho'
    have HPO := Lib.hid PO
    clear PO ho ho'
    go_wp2_with fail
    go_ret2
    have := HPO.out
    rw [← HLB.out] at this
    exact this
  by_cases ht2 : t = 2
  · subst ht2
    go_wp2_with fail
    refine (slens_calls g s q2 b2 w4 hr4).mono ?_
    rintro e w5 ⟨v1, v2, q3, b3, lit, dist, rfl, hr5, A5, K5, hrows⟩
    have hB5 := hB4.kp K5 (by simpa using Ne.symm hgr)
    have d5 : w5.cell? ⟨g, 2, none⟩ = some (.bool b3) := (hr5.out.cell 2).trans rfl
    have hz5 := K5.size
    cases b3 with
    | true =>
      go_wp2_with fail
      go_ret2
      have AX : ∀ (l' : List Nat) (p' : Nat), AnsO (body 2 l) s q2 b2 l' p' true := fun l' p' => AnsO.next A5 (AnsO.was _ _ _ _ _)
      refine ⟨_, q3, true, r, cap, l, by rw [HN.out]; rfl, hr5, hB5, (K34.then K5).mono (fun y hy => .inl (by simp at hy ⊢; exact .inl hy)), .inl rfl, Nat.le_refl _, by omega, fun e => (by cases e), fun hl G => ⟨fun _ => ?_, fun e => (by cases e), fun e => (by cases e)⟩⟩
      exact (H.out.part (by omega) hq2le hr5.le (AX l q3) G).1 rfl
    | false =>
      obtain ⟨ra, ca, cb, rfl, rfl, m1, m2, h3, h4, R1, R2, h5⟩ := hrows rfl
      clear hrows
      go_wp2_with fail
      refine (srdtoks_calls g r cap n ra 0 lit.length ca ra lit.length dist.length cb s q3 false l lit dist w5 hr5 hB5 HN.out hgr R1 R2 rfl rfl h3 h4 (by omega) (by omega) ⟨by omega, by omega⟩ ⟨by omega, by omega⟩).mono ?_
      rintro e w6 ⟨p', b', r', cap', l', rfl, hr6, hB6, K6, hr6', A6, h6, h7, h8⟩
      have ho : SOut (body 2 l) s q2 b2 l g r w4 (.returned (.slice (some ⟨r', 0, none⟩) l'.length cap')) w6 := by
        refine ⟨p', b', r', cap', l', rfl, hr6, hB6, (K5.mono (fun y hy => .inl (by simp at hy ⊢; exact .inl hy))).then K6, by omega, fun hl => AnsO.next A5 (A6 hl), h6, h7, fun e => ?_⟩
        obtain ⟨_, c2⟩ := h8 e
        have g5 := A5.good rfl
        refine ⟨g5.1, ?_⟩
        rcases c2 with c | c
        · left
          have := suf_le De.Loc.own g5.2 hq2le hr5.le
          omega
        · exact .inr c
      obtain ⟨r'', cap'', l'', he, PO⟩ := H.out.of_out (by omega) hq2le K34 ho
      have HPO := Lib.hid PO
      have HHE := Lib.hid he
      clear PO ho he A5 A6
      go_wp2_with fail
      go_ret2
      have := HPO.out
      have he := HHE.out
      simp only [Ending.returned.injEq] at he
      rw [← HLB.out, ← he] at this
      exact this
  · have c4 : w4.cell? ⟨g, 2, none⟩ = some (.bool b2) := (hr4.out.cell 2).trans rfl
    have fr4 : ∀ i, w4.frozen? ⟨g, i, none⟩ = false := hr4.out.frozen
    have hb0 : body t l = De.bad := by unfold body; rw [if_neg ht0, if_neg ht1, if_neg ht2]
    have HB0 := Lib.hid hb0
    clear hb0
    go_wp2_with fail
    go_ret2
    refine ⟨_, q2, true, r, cap, l, by rw [HN.out]; rfl, ⟨hr4.out.set 2 (.bool true), hr4.le, hr4.sz⟩, hB4.kp ((Kp.refl [g] _).set (.inl (by simp)) _) (by simpa using Ne.symm hgr), (K34.set (.inl (by simp)) _).mono (fun y hy => .inl (by simp at hy ⊢; exact .inl hy)), .inl rfl, Nat.le_refl _, by omega, fun e => (by cases e), fun hl G => ⟨fun _ => ?_, fun e => (by cases e), fun e => (by cases e)⟩⟩
    exact (H.out.part (by omega) hq2le hr4.le (l' := l) (p' := q2) (b' := true) (by rw [HB0.out]; exact AnsO.fail _ _ _ _ _) G).1 rfl
/-- How far the loop over parts still may go. -/
def sFar (s : ByteArray) (g : Nat) (w : World) (lb : Value) : Nat := (match w.cell? ⟨g, 2, none⟩ with
  | some (.bool false) => (match w.cell? ⟨g, 1, none⟩ with | some y => 8 * s.size - (intOf y).toNat + 3 | none => 3)
  | _ => 0) + (match lb with | .bool false => 1 | _ => 0)
theorem sFar_lt {w w' : World} {g q q' : Nat} {s : ByteArray} {b' l' : Bool} (h : SR w g s q false) (h' : SR w' g s q' b') (hq : b' = false → q + 3 ≤ q') : sFar s g w' (.bool l') < sFar s g w (.bool false) := by
  have h1 := h'.le
  unfold sFar
  rw [(h.out.cell 2).trans rfl, (h.out.cell 1).trans rfl, (h'.out.cell 2).trans rfl, (h'.out.cell 1).trans rfl]
  have e : ∀ n : Nat, (intOf (.int .i64 (n : Int))).toNat = n := fun n => Int.toNat_natCast n
  cases b' with
  | true =>
    show 0 + _ < 8 * s.size - (intOf (.int .i64 (q : Int))).toNat + 3 + 1
    cases l'
    · show 0 + 1 < _; omega
    · show 0 + 0 < _; omega
  | false =>
    have := hq rfl
    show 8 * s.size - (intOf (.int .i64 (q' : Int))).toNat + 3 + _ < 8 * s.size - (intOf (.int .i64 (q : Int))).toNat + 3 + 1
    rw [e, e]
    cases l'
    · show 8 * s.size - q' + 3 + 1 < _; omega
    · show 8 * s.size - q' + 3 + 0 < _; omega
set_option maxRecDepth 100000 in
set_option maxHeartbeats 2000000 in
theorem sget_calls (s : ByteArray) (w : World) (hs : s.size ≤ 700) :
    Calls Tryz.prog 120 #[.string s] w fun e w' => e = .returned (gotOf s) ∧ On w w' := by
  go_enter Tryz.func120, Tryz.ntmps120
  have BR := Blk.new w 138 #[.string s, .int .i64 0, .bool false]
  have OR := (On.refl w).alloc (.cells #[.string s, .int .i64 0, .bool false] 138)
  go_wp2_with fail
  have hw1 : SR (w.alloc (.cells #[.string s, .int .i64 0, .bool false] 138)) w.heap.size s 0 false := ⟨BR, by omega, by omega⟩
  have hg1 := BR.lt
  have hsz1 : (w.alloc (.cells #[.string s, .int .i64 0, .bool false] 138)).heap.size = w.heap.size + 1 := Array.size_push _
  generalize hg : w.heap.size = g at *
  generalize w.alloc (.cells #[.string s, .int .i64 0, .bool false] 138) = w1 at *
  have B2 := By.new w1
  have O2 := (On.refl w1).alloc (.cells #[] 5)
  rw [hsz1] at B2
  have hw2 := hw1.on O2
  have hz2 := O2.size
  generalize w1.alloc (.cells #[] 5) = w2 at *
  go_loopw [6, 7] (fun o lb wr => ∃ (q r cap : Nat) (b : Bool) (l : List Nat) (last : Bool), o = .slice (some ⟨r, 0, none⟩) l.length cap ∧ lb = .bool last ∧ SR wr g s q b ∧ By wr r cap l ∧ Kp [g, g + 1] w2 wr ∧ (r = g + 1 ∨ w2.heap.size ≤ r) ∧ (b = false → l.length ≤ 200 * q) ∧
    RowKit.Hid ((b = true ∧ whole (rest s 0) = none) ∨ (300 < l.length ∧ whole (rest s 0) = none) ∨ (b = false ∧ l.length ≤ 300 ∧ Goes s l q last))) (fun _ lb wr => sFar s g wr lb)
  case atStart => exact ⟨0, g + 1, 0, false, [], false, rfl, rfl, hw2, B2, Kp.refl _ _, .inl rfl, fun _ => by simp, Lib.hid (.inr (.inr ⟨rfl, by simp, Goes.start s⟩))⟩
  case round =>
    obtain ⟨q, r, cap, b, l, last, rfl, rfl, hr, hB, K, hra, hlq, W⟩ := hrel
    have hgr : g ≠ r := by omega
    have hqle := hr.le
    have c2 : wr.cell? ⟨g, 2, none⟩ = some (.bool b) := (hr.out.cell 2).trans rfl
    have KW0 := K
    have HLQ := Lib.hid hlq
    clear hlq
    by_cases hstop : last = true ∨ b = true
    · -- behind the loop
      have HE := Lib.hid (swhole_calls g s q b wr hr)
      have AE := Lib.hid (ans_align (b := false) hr.le)
      have HW3 : ∀ w3, SR w3 g s (evenAt q) b → Kp [g] wr w3 → On w w3 ∧ By w3 r cap l := fun w3 h3 k3 => by
        have KW : Kp [g, g + 1] w2 w3 := K.then (k3.mono (fun y hy => .inl (by simp at hy ⊢; exact .inl hy)))
        exact ⟨KW.on (OR.call O2) (fun y hy => by simp at hy; omega), hB.kp k3 (by simpa using Ne.symm hgr)⟩
      have HW := Lib.hid HW3
      clear HW3
      cases hb : b with
      | true =>
        rw [hb] at c2 HE HW W
        have hwn : whole (rest s 0) = none := by
          rcases W.out with h | h | h
          · exact h.2
          · exact h.2
          · cases h.1
        have HG := Lib.hid (got_none' (flate_not hwn))
        clear hwn
        cases last
        all_goals
          go_wp2_with fail
          refine HE.out.mono ?_
          rintro e w3 ⟨rfl, hr3, K3⟩
          obtain ⟨OW, hB3⟩ := HW.out w3 hr3 K3
          have d2 : w3.cell? ⟨g, 2, none⟩ = some (.bool true) := (hr3.out.cell 2).trans rfl
          go_wp2_with fail
          go_ret3
          exact ⟨by rw [HG.out]; rfl, OW⟩
      | false =>
        rw [hb] at c2 HE HW W
        obtain rfl : last = true := by rcases hstop with h | h; exact h; rw [hb] at h; cases h
        clear hstop
        go_wp2_with fail
        refine HE.out.mono ?_
        rintro e w3 ⟨rfl, hr3, K3⟩
        obtain ⟨OW, hB3⟩ := HW.out w3 hr3 K3
        have d1 : w3.cell? ⟨g, 1, none⟩ = some (.int .i64 (evenAt q : Nat)) := (hr3.out.cell 1).trans rfl
        have d2 : w3.cell? ⟨g, 2, none⟩ = some (.bool false) := (hr3.out.cell 2).trans rfl
        have hqe := hr3.le
        cases hp : padOk s q with
        | false =>
          rw [hp] at AE
          have hwn : whole (rest s 0) = none := by
            rcases W.out with h | h | h
            · exact h.2
            · exact h.2
            · rw [← h.2.2.done rfl]
              rcases AE.out.bad rfl with e | e
              · cases e
              · exact next_none e
          have HG := Lib.hid (got_none' (flate_not hwn))
          clear hwn
          go_wp2_with fail
          go_ret3
          exact ⟨by rw [HG.out]; rfl, OW⟩
        | true =>
          rw [hp] at AE
          by_cases hl3 : 300 < l.length
          · have hl3' : (300 : Int) < (l.length : Int) := by omega
            have hwn : whole (rest s 0) = none := by
              rcases W.out with h | h | h
              · exact h.2
              · exact h.2
              · omega
            have HG := Lib.hid (got_none' (flate_not hwn))
            clear hwn
            go_wp2_with fail
            go_ret3
            exact ⟨by rw [HG.out]; rfl, OW⟩
          · have hl3' : ¬ (300 : Int) < (l.length : Int) := by omega
            have hl3'' : decide ((300 : Int) < (l.length : Int)) = false := by simp; omega
            have hG : Goes s l q true := by
              rcases W.out with h | h | h
              · cases h.1
              · omega
              · exact h.2.2
            have hfl := flate_of (o := l) (q := evenAt q) (by omega) hqe (by rw [← hG.done rfl]; exact next_some (AE.out.good rfl).2)
            have e8 : s.size - (8 * s.size - evenAt q) / 8 = evenAt q / 8 := by unfold evenAt at *; omega
            rw [e8] at hfl
            have HR : RowKit.Hid (gotOf s = .tuple #[.string (strB l), .int .i64 ((evenAt q / 8 : Nat) : Int), .bool true]) := Lib.hid (by unfold gotOf; rw [hfl])
            clear hfl e8 hG
            have cv := bytes_conv hB3.out
            have cvd := fun n => bytes_conv (hB3.on ((On.refl w3).drewN n)).out
            have cvr := bytes_conv (hB3.on ((On.refl w3).drew)).out
            have e1 : Int.tdiv ((evenAt q : Nat) : Int) 8 = ((evenAt q / 8 : Nat) : Int) := tdiv_nat (evenAt q) 8
            have e2 : IntKind.i64.wrap (((evenAt q : Nat) : Int) / 8) = ((evenAt q / 8 : Nat) : Int) := by rw [IntKind.wrap_i64]; omega
            have hn8 : evenAt q / 8 ≤ 1000000 := by omega
            generalize evenAt q / 8 = n8 at *
            generalize evenAt q = qe at *
            go_wp2_with fail
            go_quiet (fail)
            go_wp2_with fail
            go_ret3
            exact ⟨by rw [HR.out]; rfl, OW.drewN _⟩
    · obtain rfl : last = false := by cases last; rfl; exact absurd (.inl rfl) hstop
      obtain rfl : b = false := by cases b; rfl; exact absurd (.inr rfl) hstop
      clear hstop
      have hl5 : l.length ≤ 80000000 := by have := HLQ.out rfl; omega
      go_wp2_with fail
      refine (spart_calls g r cap l.length s q l wr hr hB rfl hl5 hgr hs).mono ?_
      rintro e w3 ⟨last', q', b', r', cap', l', rfl, hr3, hB3, K3, hr', h1, h2, h3, h4⟩
      go_wp2_with fail
      have hz := K.size
      refine ⟨⟨q', r', cap', b', l', last', rfl, rfl, hr3, hB3, K.trans K3 (fun y hy => by simp at hy ⊢; omega), by omega, fun e => ?_, Lib.hid ?_⟩, sFar_lt hr hr3 h3⟩
      · have h5 : l.length ≤ 200 * q := by first | exact HLQ.out rfl | exact HLQ.out trivial
        have := h3 e
        omega
      · rcases W.out with h | h | h
        · cases h.1
        · exact .inr (.inl ⟨by omega, h.2⟩)
        · obtain ⟨a1, a2, a3⟩ := h4 h.2.1 h.2.2
          cases b' with
          | true => exact .inl ⟨rfl, a1 rfl⟩
          | false =>
            by_cases hl3 : 300 < l'.length
            · exact .inr (.inl ⟨hl3, a2 rfl hl3⟩)
            · exact .inr (.inr ⟨rfl, by omega, a3 rfl (by omega)⟩)
set_option maxRecDepth 100000 in
theorem sflateget_calls (s : ByteArray) (w : World) :
    Calls Tryz.prog 84 #[.string s] w fun e w' => e = .returned (gotOf s) ∧ On w w' := by
  by_cases h7 : 700 < s.size
  · have h7' : (700 : Int) < s.size := by omega
    have HR : RowKit.Hid (gotOf s = .tuple #[.string ⟨#[]⟩, .int .i64 0, .bool false]) := Lib.hid (by unfold gotOf flate; rw [if_pos (by rw [chars_length]; exact h7)])
    go_enter Tryz.func84, Tryz.ntmps84
    go_wp2_with fail
    go_ret3
    exact ⟨by rw [HR.out]; rfl, On.refl _⟩
  have h7' : ¬ (700 : Int) < s.size := by omega
  go_enter Tryz.func84, Tryz.ntmps84
  go_wp2_with fail
  refine (sget_calls s w (by omega)).mono ?_
  rintro e w1 ⟨rfl, O⟩
  cases hf : flate (chars s) with
  | none =>
    have HG : RowKit.Hid (gotOf s = .tuple #[.string ⟨#[]⟩, .int .i64 0, .bool false]) := Lib.hid (by unfold gotOf; rw [hf])
    rw [HG.out]
    go_wp2_with fail
    go_ret3
    exact ⟨by first | rfl | (rw [HG.out]; rfl), O⟩
  | some p =>
    have HG : RowKit.Hid (gotOf s = .tuple #[.string (strB p.1), .int .i64 (p.2 : Int), .bool true]) := Lib.hid (by unfold gotOf; rw [hf])
    rw [HG.out]
    go_wp2_with fail
    go_ret3
    exact ⟨by first | rfl | (rw [HG.out]; rfl), O⟩
end Go.Proofs.YtnadjlejlohgiaaGreatDoor.Wi

/- A packed file's text, and how a text is packed: the specification's. -/
namespace Go.Proofs.YtnadjlejlohgiaaGreatDoor.Lc
open Go.RowKit Go.Proofs.YtnadjlejlohgiaaGreatDoor.Mem Go.Proofs.YtnadjlejlohgiaaGreatDoor.Wi Go.Proofs.YtnadjlejlohgiaaGreatDoor.De
set_option linter.unusedVariables false
set_option linter.unusedSimpArgs false
/-- The text of a file packed in the way m. -/
def textOf (m : Nat) (p : List Nat) : Option (List Nat) :=
  if m = 0 then some p else if m = 8 then (match flate p with | some (o, n) => if n = p.length then some o else none | none => none) else none
/-- What is told of a text. -/
structure TextIs (m : Nat) (s : ByteArray) (tx : ByteArray) (b : Bool) : Prop where
  ok : b = (textOf m (chars s)).isSome
  tx : ∀ o, textOf m (chars s) = some o → tx = strB o
theorem TextIs.zero (s : ByteArray) : TextIs 0 s s true := ⟨by simp [textOf], fun o h => by simp [textOf] at h; rw [← h, strB_chars]⟩
theorem TextIs.none {m : Nat} {s tx : ByteArray} (h : textOf m (chars s) = none) : TextIs m s tx false := ⟨by rw [h]; rfl, fun o ho => by rw [h] at ho; cases ho⟩
theorem TextIs.some {m : Nat} {s : ByteArray} {o : List Nat} (h : textOf m (chars s) = some o) : TextIs m s (strB o) true := ⟨by rw [h]; rfl, fun o' ho => by rw [h] at ho; cases ho; rfl⟩
set_option maxRecDepth 100000 in
theorem stext_calls (m : Nat) (s : ByteArray) (hs : s.size ≤ 4294967296) (w : World) :
    Calls Tryz.prog 58 #[.int .i64 m, .string s] w (fun e w' => ∃ tx b, e = .returned (.tuple #[.string tx, .bool b]) ∧ On w w' ∧ TextIs m s tx b) := by
  by_cases h0 : m = 0
  · subst h0
    have HT := Lib.hid (TextIs.zero s)
    go_enter Tryz.func58, Tryz.ntmps58
    go_wp2_with fail
    go_ret2
    exact ⟨_, _, rfl, On.refl _, HT.out⟩
  have h0' : ¬ (m : Int) = 0 := by omega
  have hg := sflateget_calls s w
  unfold gotOf at hg
  cases hf : flate (chars s) with
  | none =>
    rw [hf] at hg
    have HT := Lib.hid (fun tx => TextIs.none (m := m) (s := s) (tx := tx) (by unfold textOf; rw [if_neg h0, hf]; split <;> rfl))
    have HG := Lib.hid hg
    clear hg
    go_enter Tryz.func58, Tryz.ntmps58
    go_wp2_with fail
    refine HG.out.mono ?_
    rintro e w1 ⟨rfl, O1⟩
    go_wp2_with fail
    go_ret2
    exact ⟨_, _, rfl, O1, HT.out _⟩
  | some r =>
    obtain ⟨o, n⟩ := r
    rw [hf] at hg
    have HG := Lib.hid hg
    clear hg
    have hlc : (chars s).length = s.size := chars_length s
    by_cases h8 : m = 8
    · subst h8
      by_cases hn : n = s.size
      · have HT := Lib.hid (TextIs.some (m := 8) (s := s) (o := o) (by unfold textOf; rw [if_neg h0, if_pos rfl, hf]; show (if n = (chars s).length then _ else _) = _; rw [if_pos (by omega)]))
        subst hn
        clear hlc hf
        go_enter Tryz.func58, Tryz.ntmps58
        go_wp2_with fail
        refine HG.out.mono ?_
        rintro e w1 ⟨rfl, O1⟩
        go_wp2_with fail
        go_ret2
        exact ⟨_, _, rfl, O1, HT.out⟩
      · have HT := Lib.hid (fun tx => TextIs.none (m := 8) (s := s) (tx := tx) (by unfold textOf; rw [if_neg h0, if_pos rfl, hf]; show (if n = (chars s).length then _ else _) = _; rw [if_neg (by omega)]))
        have hn' : ((n : Int) == s.size) = false := by rw [beq_eq_false_iff_ne]; omega
        clear hlc hf
        go_enter Tryz.func58, Tryz.ntmps58
        go_wp2_with fail
        refine HG.out.mono ?_
        rintro e w1 ⟨rfl, O1⟩
        go_wp2_with fail
        go_ret2
        exact ⟨_, _, rfl, O1, HT.out _⟩
    · have HT := Lib.hid (fun tx => TextIs.none (m := m) (s := s) (tx := tx) (by unfold textOf; rw [if_neg h0, if_neg h8]))
      have h8' : ((m : Int) == 8) = false := by rw [beq_eq_false_iff_ne]; omega
      clear hlc hf
      go_enter Tryz.func58, Tryz.ntmps58
      go_wp2_with fail
      refine HG.out.mono ?_
      rintro e w1 ⟨rfl, O1⟩
      go_wp2_with fail
      go_ret2
      exact ⟨_, _, rfl, O1, HT.out _⟩
end Go.Proofs.YtnadjlejlohgiaaGreatDoor.Lc

