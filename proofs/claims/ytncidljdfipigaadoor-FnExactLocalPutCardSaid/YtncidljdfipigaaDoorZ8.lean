/- Own texts joined: Rf, Sp, WTok, WToks, Hq0, Hm. -/
import Derived.WalkKit
import Derived.WalkSpells
import Derived.Deep.QuietTactic
import Derived.BigQuiet
import Derived.Test.YtncidljdfipigaaDoorZ0
import Derived.Test.YtncidljdfipigaaDoorZ1
import Derived.Test.YtncidljdfipigaaDoorZ3
import Derived.Test.YtncidljdfipigaaDoorZ4
import Derived.Test.YtncidljdfipigaaDoorZ7
/- The program tells how a text is packed: FlateKind. Conditions: the variable order as it is laid. -/
namespace Go.Proofs.YtncidljdfipigaaDoor.Wi
open Go.RowKit Go.Proofs.YtncidljdfipigaaDoor.Mem Go.Proofs.YtncidljdfipigaaDoor.Bt Go.Proofs.YtncidljdfipigaaDoor.Cd Go.Proofs.YtncidljdfipigaaDoor.De
set_option linter.unusedVariables false
set_option linter.unusedSimpArgs false
/-- What FlateKind answers. -/
def kindOf (t : List Nat) : Int := match flate t with
  | some _ => ((t.getD 0 0 / 2 % 4 : Nat) : Int)
  | none => -1
theorem flate_nil : flate [] = none := by
  cases h : flate [] with
  | none => rfl
  | some p =>
    exfalso
    obtain ⟨_, _, hw⟩ := flate_inv (o := p.1) (n := p.2) h
    obtain ⟨x, r1, h1, h2⟩ := next_inv hw
    obtain ⟨x, r1, h1, h2⟩ := next_inv h1
    obtain ⟨x, r1, h1, h2⟩ := next_inv h1
    cases h1
theorem bits_kind : ∀ b : Nat, b < 256 → Go.bits .and .i64 ((b : Int) / 2) 3 = ((b / 2 % 4 : Nat) : Int) := by decide +kernel
set_option maxRecDepth 100000 in
theorem flatekind_calls (x : Addr) (s : ByteArray) (w : World) (hO : Ord w x) :
    Calls Tryd.prog 25 #[.string s] w fun e w' => e = .returned (.int .i64 (kindOf (chars s))) ∧ On w w' := by
  have HC := Lib.hid (flateget_calls x s w hO)
  go_enter Tryd.func25, Tryd.ntmps25
  go_wp2_with fail
  refine HC.out.mono ?_
  rintro e w1 ⟨rfl, O⟩
  cases hf : flate (chars s) with
  | none =>
    have HG : RowKit.Hid (gotOf s = .tuple #[.string ⟨#[]⟩, .int .i64 0, .bool false]) := Lib.hid (by unfold gotOf; rw [hf])
    have HK : RowKit.Hid (kindOf (chars s) = -1) := Lib.hid (by unfold kindOf; rw [hf])
    rw [HG.out]
    clear hf
    go_wp2_with fail
    go_ret
    exact ⟨by rw [HK.out]; rfl, O⟩
  | some p =>
    have h0 : 0 < s.size := by
      rcases Nat.eq_zero_or_pos s.size with h | h
      · have : chars s = [] := List.eq_nil_of_length_eq_zero (by rw [chars_length]; exact h)
        rw [this, flate_nil] at hf; cases hf
      · exact h
    have HG : RowKit.Hid (gotOf s = .tuple #[.string (strB p.1), .int .i64 (p.2 : Int), .bool true]) := Lib.hid (by unfold gotOf; rw [hf])
    have HK : RowKit.Hid (kindOf (chars s) = ((s[0].toNat / 2 % 4 : Nat) : Int)) := Lib.hid (by unfold kindOf; rw [hf]; simp only []; rw [chars_at s h0])
    rw [HG.out]
    clear hf
    have hb := s[0].toNat_lt
    have h0' : (0 : Int) < s.size := by omega
    go_wp2_with fail
    go_ret
    exact ⟨by rw [HK.out, ← bits_kind _ hb]; rfl, O⟩
end Go.Proofs.YtncidljdfipigaaDoor.Wi

/- The specification unpacks a text: part, l5Get, FlateGet, FlateKind. No condition. -/
namespace Go.Proofs.YtncidljdfipigaaDoor.Wi
open Go.RowKit Go.Proofs.YtncidljdfipigaaDoor.Mem Go.Proofs.YtncidljdfipigaaDoor.Bt Go.Proofs.YtncidljdfipigaaDoor.Cd Go.Proofs.YtncidljdfipigaaDoor.De
set_option linter.unusedVariables false
set_option linter.unusedSimpArgs false
theorem got_none' {x : ByteArray} (h : flate (chars x) = none) : gotOf x = .tuple #[.string ⟨#[]⟩, .int .i64 0, .bool false] := by
  unfold gotOf
  rw [h]
/-- What part leaves. -/
structure PartOut (s : ByteArray) (p : Nat) (l : List Nat) (g r : Nat) (w : World) (e : Ending) (w' : World) : Prop where mk ::
  out : ∃ (last : Bool) (p' : Nat) (b' : Bool) (r' cap' : Nat) (l' : List Nat), e = .returned (.tuple #[.slice (some ⟨r', 0, none⟩) l'.length cap', .bool last]) ∧ SR w' g s p' b' ∧ By w' r' cap' l' ∧ Kp [g, r] w w' ∧ (r' = r ∨ w.heap.size ≤ r') ∧ l.length ≤ l'.length ∧ l'.length ≤ l.length + 400 ∧ (b' = false → p + 3 ≤ p') ∧
    (l.length ≤ 300 → Goes s l p false → (b' = true → whole (rest s 0) = Option.none) ∧ (b' = false → 300 < l'.length → whole (rest s 0) = Option.none) ∧ (b' = false → l'.length ≤ 300 → Goes s l' p' last))
/-- The head of a part has been read. -/
structure Head (s : ByteArray) (p lb t q2 : Nat) (b2 : Bool) : Prop where mk ::
  out : ∃ (q1 : Nat) (b1 : Bool), Ans (num 1) s p false lb q1 b1 ∧ Ans (num 2) s q1 b1 t q2 b2 ∧ (b1 = false → q1 = p + 1) ∧ (b2 = false → q2 = q1 + 2)
theorem Head.far {s : ByteArray} {p lb t q2 : Nat} {b2 : Bool} (h : Head s p lb t q2 b2) (e : b2 = false) : q2 = p + 3 := by
  obtain ⟨q1, b1, A1, A2, e1, e2⟩ := h.out
  have := e2 e
  have := e1 (A2.good e).1
  omega
theorem Head.part {s : ByteArray} {p lb t q2 p' : Nat} {b2 b' : Bool} {l l' : List Nat} (h : Head s p lb t q2 b2) (hp : p ≤ 5600) (hq2 : q2 ≤ 8 * s.size) (hp' : p' ≤ 8 * s.size) (A : AnsO (body t l) s q2 b2 l' p' b') (G : Goes s l p false) :
    (b' = true → whole (rest s 0) = Option.none) ∧ (b' = false → 300 < l'.length → whole (rest s 0) = Option.none) ∧ (b' = false → l'.length ≤ 300 → Goes s l' p' (lb == 1)) := by
  obtain ⟨q1, b1, A1, A2, e1, e2⟩ := h.out
  exact G.step hp A1 A2 A e1 e2 (fun e h => suf_le (De.Loc.body t l) ((A.good e).2.1 h) hq2 hp')
theorem Head.of_out {s : ByteArray} {p lb t q2 : Nat} {b2 : Bool} {l : List Nat} {g r : Nat} {w w2 w3 : World} {e : Ending} (H : Head s p lb t q2 b2) (hp : p ≤ 5600) (hq2 : q2 ≤ 8 * s.size) (K : Kp [g] w w2) (h : SOut (body t l) s q2 b2 l g r w2 e w3) :
    ∃ (r' cap' : Nat) (l' : List Nat), e = .returned (.slice (some ⟨r', 0, none⟩) l'.length cap') ∧ PartOut s p l g r w (.returned (.tuple #[.slice (some ⟨r', 0, none⟩) l'.length cap', .bool (lb == 1)])) w3 := by
  obtain ⟨p', b', r', cap', l', rfl, hr, hB, K2, hr', A, h1, h2, h3⟩ := h.out
  have hz := K.size
  refine ⟨r', cap', l', rfl, ⟨lb == 1, p', b', r', cap', l', rfl, hr, hB, (K.mono (fun y hy => .inl (by simp at hy ⊢; exact .inl hy))).then K2, by omega, h1, h2, fun e => ?_, fun hl G => H.part hp hq2 hr.le (A hl) G⟩⟩
  obtain ⟨c1, c2⟩ := h3 e
  have f := H.far c1
  rcases c2 with c | c
  · omega
  · have := suf_le (De.Loc.body t l) (((A (by omega)).good e).2.1 c) hq2 hr.le
    omega
set_option maxRecDepth 100000 in
set_option maxHeartbeats 2000000 in
theorem spart_calls (g r cap n : Nat) (s : ByteArray) (p : Nat) (l : List Nat) (w : World) (hw : SR w g s p false) (hb : By w r cap l) (hn : l.length = n) (hn2 : n ≤ 80000000) (hgr : g ≠ r) (hs : s.size ≤ 700) :
    Calls Tryd.prog 100 #[.pointer (some ⟨g, 0, none⟩), .slice (some ⟨r, 0, none⟩) n cap] w fun e w' => PartOut s p l g r w e w' := by
  have HN := Lib.hid hn
  clear hn
  have hgl := hw.out.lt
  have hrl := hb.lt
  have hple := hw.le
  have HE := Lib.hid (sbit_calls g s p false w hw)
  have A1 := Lib.hid (ans_num (n := 1) (b := false) hw.le)
  have hv1 := numAt_lt s p 1
  obtain ⟨q1, hq1⟩ : ∃ q1, min (p + 1) (8 * s.size) = q1 := ⟨_, rfl⟩
  obtain ⟨b1, hb1⟩ : ∃ b1, (false || decide (8 * s.size < p + 1)) = b1 := ⟨_, rfl⟩
  have E1 : RowKit.Hid (b1 = false → q1 = p + 1) := Lib.hid (fun e => by rw [e] at hb1; simp at hb1; omega)
  rw [hq1, hb1] at A1 HE
  clear hq1 hb1
  generalize numAt s p 1 = lb at *
  go_enter Tryd.func100, Tryd.ntmps100
  go_wp2_with fail
  refine HE.out.mono ?_
  rintro e w3 ⟨rfl, hr3, K3⟩
  have HE2 := Lib.hid (snum_calls g 2 s q1 b1 w3 hr3 (by omega))
  have A2 := Lib.hid (ans_num (n := 2) (b := b1) hr3.le)
  have hv2 := numAt_lt s q1 2
  obtain ⟨q2, hq2⟩ : ∃ q2, min (q1 + 2) (8 * s.size) = q2 := ⟨_, rfl⟩
  obtain ⟨b2, hb2⟩ : ∃ b2, (b1 || decide (8 * s.size < q1 + 2)) = b2 := ⟨_, rfl⟩
  have E2 : RowKit.Hid (b2 = false → q2 = q1 + 2) := Lib.hid (fun e => by rw [e] at hb2; simp at hb2; omega)
  rw [hq2, hb2] at A2 HE2
  clear hq2 hb2
  generalize numAt s q1 2 = t at *
  go_wp2_with fail
  refine HE2.out.mono ?_
  rintro e w4 ⟨rfl, hr4, K4⟩
  have K34 := K3.then K4
  have hB4 := hb.kp K34 (by simpa using Ne.symm hgr)
  have H : RowKit.Hid (Head s p lb t q2 b2) := Lib.hid ⟨q1, b1, A1.out, A2.out, E1.out, E2.out⟩
  have hq2le := hr4.le
  have hz4 := K34.size
  have hlb : ((lb : Int) == 1) = (lb == 1) := by rw [Bool.eq_iff_iff]; simp; omega
  have HLB := Lib.hid hlb
  clear A1 A2 E1 E2 HE HE2 hlb K3 K4
  by_cases ht0 : t = 0
  · subst ht0
    go_wp2_with fail
    refine (sstored_calls g r cap n s q2 b2 l w4 hr4 hB4 HN.out (by omega) hgr).mono ?_
    intro e w5 ho
    obtain ⟨r', cap', l', rfl, PO⟩ := H.out.of_out (by omega) hq2le K34 ho
    have HPO := Lib.hid PO
    clear PO ho
    go_wp2_with fail
    go_ret2
    have := HPO.out
    rw [← HLB.out] at this
    exact this
  by_cases ht1 : t = 1
  · subst ht1
    go_wp2_with fail
    refine (sfixed_calls w4).mono ?_
    rintro e w5 ⟨ra, ca, rfl, Na, ha1, ha2, O5⟩
    rw [fixLit_length] at Na ⊢
    go_wp2_with fail
    refine (sfives_calls w5).mono ?_
    rintro e w6 ⟨rb, cb, rfl, Nb, hb1, hb2, O6⟩
    rw [fixDist_length] at Nb ⊢
    have Na6 := Na.on O6
    have O56 := O5.call O6
    have hz5 := O5.size
    have hz6 := O6.size
    have hr6 := hr4.on O56
    have hB6 := hB4.on O56
    go_wp2_with fail
    refine (srdtoks_calls g r cap n ra 0 288 ca rb 0 32 cb s q2 b2 l fixLit fixDist w6 hr6 hB6 HN.out hgr Na6.row.1.toO Nb.row.1.toO fixLit_length fixDist_length Na.row.2.2.1 Nb.row.2.2.1 (by omega) (by omega) ⟨by omega, by omega⟩ ⟨by omega, by omega⟩).mono ?_
    intro e w7 ho
    have ho' : SOut (body 1 l) s q2 b2 l g r w6 e w7 := ho
    obtain ⟨r', cap', l', rfl, PO⟩ := H.out.of_out (by omega) hq2le (K34.then (Kp.of _ O56)) ho'
    have HPO := Lib.hid PO
    clear PO ho ho'
    go_wp2_with fail
    go_ret2
    have := HPO.out
    rw [← HLB.out] at this
    exact this
  by_cases ht2 : t = 2
  · subst ht2
    go_wp2_with fail
    refine (slens_calls g s q2 b2 w4 hr4).mono ?_
    rintro e w5 ⟨v1, v2, q3, b3, lit, dist, rfl, hr5, A5, K5, hrows⟩
    have hB5 := hB4.kp K5 (by simpa using Ne.symm hgr)
    have d5 : w5.cell? ⟨g, 2, none⟩ = some (.bool b3) := (hr5.out.cell 2).trans rfl
    have hz5 := K5.size
    cases b3 with
    | true =>
      go_wp2_with fail
      go_ret2
      have AX : ∀ (l' : List Nat) (p' : Nat), AnsO (body 2 l) s q2 b2 l' p' true := fun l' p' => AnsO.next A5 (AnsO.was _ _ _ _ _)
      refine ⟨_, q3, true, r, cap, l, by rw [HN.out]; rfl, hr5, hB5, (K34.then K5).mono (fun y hy => .inl (by simp at hy ⊢; exact .inl hy)), .inl rfl, Nat.le_refl _, by omega, fun e => (by cases e), fun hl G => ⟨fun _ => ?_, fun e => (by cases e), fun e => (by cases e)⟩⟩
      exact (H.out.part (by omega) hq2le hr5.le (AX l q3) G).1 rfl
    | false =>
      obtain ⟨ra, ca, cb, rfl, rfl, m1, m2, h3, h4, R1, R2, h5⟩ := hrows rfl
      clear hrows
      go_wp2_with fail
      refine (srdtoks_calls g r cap n ra 0 lit.length ca ra lit.length dist.length cb s q3 false l lit dist w5 hr5 hB5 HN.out hgr R1 R2 rfl rfl h3 h4 (by omega) (by omega) ⟨by omega, by omega⟩ ⟨by omega, by omega⟩).mono ?_
      rintro e w6 ⟨p', b', r', cap', l', rfl, hr6, hB6, K6, hr6', A6, h6, h7, h8⟩
      have ho : SOut (body 2 l) s q2 b2 l g r w4 (.returned (.slice (some ⟨r', 0, none⟩) l'.length cap')) w6 := by
        refine ⟨p', b', r', cap', l', rfl, hr6, hB6, (K5.mono (fun y hy => .inl (by simp at hy ⊢; exact .inl hy))).then K6, by omega, fun hl => AnsO.next A5 (A6 hl), h6, h7, fun e => ?_⟩
        obtain ⟨_, c2⟩ := h8 e
        have g5 := A5.good rfl
        refine ⟨g5.1, ?_⟩
        rcases c2 with c | c
        · left
          have := suf_le De.Loc.own g5.2 hq2le hr5.le
          omega
        · exact .inr c
      obtain ⟨r'', cap'', l'', he, PO⟩ := H.out.of_out (by omega) hq2le K34 ho
      have HPO := Lib.hid PO
      have HHE := Lib.hid he
      clear PO ho he A5 A6
      go_wp2_with fail
      go_ret2
      have := HPO.out
      have he := HHE.out
      simp only [Ending.returned.injEq] at he
      rw [← HLB.out, ← he] at this
      exact this
  · have c4 : w4.cell? ⟨g, 2, none⟩ = some (.bool b2) := (hr4.out.cell 2).trans rfl
    have fr4 : ∀ i, w4.frozen? ⟨g, i, none⟩ = false := hr4.out.frozen
    have hb0 : body t l = De.bad := by unfold body; rw [if_neg ht0, if_neg ht1, if_neg ht2]
    have HB0 := Lib.hid hb0
    clear hb0
    go_wp2_with fail
    go_ret2
    refine ⟨_, q2, true, r, cap, l, by rw [HN.out]; rfl, ⟨hr4.out.set 2 (.bool true), hr4.le, hr4.sz⟩, hB4.kp ((Kp.refl [g] _).set (.inl (by simp)) _) (by simpa using Ne.symm hgr), (K34.set (.inl (by simp)) _).mono (fun y hy => .inl (by simp at hy ⊢; exact .inl hy)), .inl rfl, Nat.le_refl _, by omega, fun e => (by cases e), fun hl G => ⟨fun _ => ?_, fun e => (by cases e), fun e => (by cases e)⟩⟩
    exact (H.out.part (by omega) hq2le hr4.le (l' := l) (p' := q2) (b' := true) (by rw [HB0.out]; exact AnsO.fail _ _ _ _ _) G).1 rfl
/-- How far the loop over parts still may go. -/
def sFar (s : ByteArray) (g : Nat) (w : World) (lb : Value) : Nat := (match w.cell? ⟨g, 2, none⟩ with
  | some (.bool false) => (match w.cell? ⟨g, 1, none⟩ with | some y => 8 * s.size - (intOf y).toNat + 3 | none => 3)
  | _ => 0) + (match lb with | .bool false => 1 | _ => 0)
theorem sFar_lt {w w' : World} {g q q' : Nat} {s : ByteArray} {b' l' : Bool} (h : SR w g s q false) (h' : SR w' g s q' b') (hq : b' = false → q + 3 ≤ q') : sFar s g w' (.bool l') < sFar s g w (.bool false) := by
  have h1 := h'.le
  unfold sFar
  rw [(h.out.cell 2).trans rfl, (h.out.cell 1).trans rfl, (h'.out.cell 2).trans rfl, (h'.out.cell 1).trans rfl]
  have e : ∀ n : Nat, (intOf (.int .i64 (n : Int))).toNat = n := fun n => Int.toNat_natCast n
  cases b' with
  | true =>
    show 0 + _ < 8 * s.size - (intOf (.int .i64 (q : Int))).toNat + 3 + 1
    cases l'
    · show 0 + 1 < _; omega
    · show 0 + 0 < _; omega
  | false =>
    have := hq rfl
    show 8 * s.size - (intOf (.int .i64 (q' : Int))).toNat + 3 + _ < 8 * s.size - (intOf (.int .i64 (q : Int))).toNat + 3 + 1
    rw [e, e]
    cases l'
    · show 8 * s.size - q' + 3 + 1 < _; omega
    · show 8 * s.size - q' + 3 + 0 < _; omega
set_option maxRecDepth 100000 in
set_option maxHeartbeats 2000000 in
theorem sget_calls (s : ByteArray) (w : World) (hs : s.size ≤ 700) :
    Calls Tryd.prog 68 #[.string s] w fun e w' => e = .returned (gotOf s) ∧ On w w' := by
  go_enter Tryd.func68, Tryd.ntmps68
  have BR := Blk.new w 103 #[.string s, .int .i64 0, .bool false]
  have OR := (On.refl w).alloc (.cells #[.string s, .int .i64 0, .bool false] 103)
  go_wp2_with fail
  have hw1 : SR (w.alloc (.cells #[.string s, .int .i64 0, .bool false] 103)) w.heap.size s 0 false := ⟨BR, by omega, by omega⟩
  have hg1 := BR.lt
  have hsz1 : (w.alloc (.cells #[.string s, .int .i64 0, .bool false] 103)).heap.size = w.heap.size + 1 := Array.size_push _
  generalize hg : w.heap.size = g at *
  generalize w.alloc (.cells #[.string s, .int .i64 0, .bool false] 103) = w1 at *
  have B2 := By.new w1
  have O2 := (On.refl w1).alloc (.cells #[] 5)
  rw [hsz1] at B2
  have hw2 := hw1.on O2
  have hz2 := O2.size
  generalize w1.alloc (.cells #[] 5) = w2 at *
  go_loopw [6, 7] (fun o lb wr => ∃ (q r cap : Nat) (b : Bool) (l : List Nat) (last : Bool), o = .slice (some ⟨r, 0, none⟩) l.length cap ∧ lb = .bool last ∧ SR wr g s q b ∧ By wr r cap l ∧ Kp [g, g + 1] w2 wr ∧ (r = g + 1 ∨ w2.heap.size ≤ r) ∧ (b = false → l.length ≤ 200 * q) ∧
    RowKit.Hid ((b = true ∧ whole (rest s 0) = none) ∨ (300 < l.length ∧ whole (rest s 0) = none) ∨ (b = false ∧ l.length ≤ 300 ∧ Goes s l q last))) (fun _ lb wr => sFar s g wr lb)
  case atStart => exact ⟨0, g + 1, 0, false, [], false, rfl, rfl, hw2, B2, Kp.refl _ _, .inl rfl, fun _ => by simp, Lib.hid (.inr (.inr ⟨rfl, by simp, Goes.start s⟩))⟩
  case round =>
    obtain ⟨q, r, cap, b, l, last, rfl, rfl, hr, hB, K, hra, hlq, W⟩ := hrel
    have hgr : g ≠ r := by omega
    have hqle := hr.le
    have c2 : wr.cell? ⟨g, 2, none⟩ = some (.bool b) := (hr.out.cell 2).trans rfl
    have KW0 := K
    have HLQ := Lib.hid hlq
    clear hlq
    by_cases hstop : last = true ∨ b = true
    · -- behind the loop
      have HE := Lib.hid (swhole_calls g s q b wr hr)
      have AE := Lib.hid (ans_align (b := false) hr.le)
      have HW3 : ∀ w3, SR w3 g s (evenAt q) b → Kp [g] wr w3 → On w w3 ∧ By w3 r cap l := fun w3 h3 k3 => by
        have KW : Kp [g, g + 1] w2 w3 := K.then (k3.mono (fun y hy => .inl (by simp at hy ⊢; exact .inl hy)))
        exact ⟨KW.on (OR.call O2) (fun y hy => by simp at hy; omega), hB.kp k3 (by simpa using Ne.symm hgr)⟩
      have HW := Lib.hid HW3
      clear HW3
      cases hb : b with
      | true =>
        rw [hb] at c2 HE HW W
        have hwn : whole (rest s 0) = none := by
          rcases W.out with h | h | h
          · exact h.2
          · exact h.2
          · cases h.1
        have HG := Lib.hid (got_none' (flate_not hwn))
        clear hwn
        cases last
        all_goals
          go_wp2_with fail
          refine HE.out.mono ?_
          rintro e w3 ⟨rfl, hr3, K3⟩
          obtain ⟨OW, hB3⟩ := HW.out w3 hr3 K3
          have d2 : w3.cell? ⟨g, 2, none⟩ = some (.bool true) := (hr3.out.cell 2).trans rfl
          go_wp2_with fail
          go_ret3
          exact ⟨by rw [HG.out]; rfl, OW⟩
      | false =>
        rw [hb] at c2 HE HW W
        obtain rfl : last = true := by rcases hstop with h | h; exact h; rw [hb] at h; cases h
        clear hstop
        go_wp2_with fail
        refine HE.out.mono ?_
        rintro e w3 ⟨rfl, hr3, K3⟩
        obtain ⟨OW, hB3⟩ := HW.out w3 hr3 K3
        have d1 : w3.cell? ⟨g, 1, none⟩ = some (.int .i64 (evenAt q : Nat)) := (hr3.out.cell 1).trans rfl
        have d2 : w3.cell? ⟨g, 2, none⟩ = some (.bool false) := (hr3.out.cell 2).trans rfl
        have hqe := hr3.le
        cases hp : padOk s q with
        | false =>
          rw [hp] at AE
          have hwn : whole (rest s 0) = none := by
            rcases W.out with h | h | h
            · exact h.2
            · exact h.2
            · rw [← h.2.2.done rfl]
              rcases AE.out.bad rfl with e | e
              · cases e
              · exact next_none e
          have HG := Lib.hid (got_none' (flate_not hwn))
          clear hwn
          go_wp2_with fail
          go_ret3
          exact ⟨by rw [HG.out]; rfl, OW⟩
        | true =>
          rw [hp] at AE
          by_cases hl3 : 300 < l.length
          · have hl3' : (300 : Int) < (l.length : Int) := by omega
            have hwn : whole (rest s 0) = none := by
              rcases W.out with h | h | h
              · exact h.2
              · exact h.2
              · omega
            have HG := Lib.hid (got_none' (flate_not hwn))
            clear hwn
            go_wp2_with fail
            go_ret3
            exact ⟨by rw [HG.out]; rfl, OW⟩
          · have hl3' : ¬ (300 : Int) < (l.length : Int) := by omega
            have hl3'' : decide ((300 : Int) < (l.length : Int)) = false := by simp; omega
            have hG : Goes s l q true := by
              rcases W.out with h | h | h
              · cases h.1
              · omega
              · exact h.2.2
            have hfl := flate_of (o := l) (q := evenAt q) (by omega) hqe (by rw [← hG.done rfl]; exact next_some (AE.out.good rfl).2)
            have e8 : s.size - (8 * s.size - evenAt q) / 8 = evenAt q / 8 := by unfold evenAt at *; omega
            rw [e8] at hfl
            have HR : RowKit.Hid (gotOf s = .tuple #[.string (strB l), .int .i64 ((evenAt q / 8 : Nat) : Int), .bool true]) := Lib.hid (by unfold gotOf; rw [hfl])
            clear hfl e8 hG
            have cv := bytes_conv hB3.out
            have cvd := fun n => bytes_conv (hB3.on ((On.refl w3).drewN n)).out
            have cvr := bytes_conv (hB3.on ((On.refl w3).drew)).out
            have e1 : Int.tdiv ((evenAt q : Nat) : Int) 8 = ((evenAt q / 8 : Nat) : Int) := tdiv_nat (evenAt q) 8
            have e2 : IntKind.i64.wrap (((evenAt q : Nat) : Int) / 8) = ((evenAt q / 8 : Nat) : Int) := by rw [IntKind.wrap_i64]; omega
            have hn8 : evenAt q / 8 ≤ 1000000 := by omega
            generalize evenAt q / 8 = n8 at *
            generalize evenAt q = qe at *
            go_wp2_with fail
            go_quiet (fail)
            go_wp2_with fail
            go_ret3
            exact ⟨by rw [HR.out]; rfl, OW.drewN _⟩
    · obtain rfl : last = false := by cases last; rfl; exact absurd (.inl rfl) hstop
      obtain rfl : b = false := by cases b; rfl; exact absurd (.inr rfl) hstop
      clear hstop
      have hl5 : l.length ≤ 80000000 := by have := HLQ.out rfl; omega
      go_wp2_with fail
      refine (spart_calls g r cap l.length s q l wr hr hB rfl hl5 hgr hs).mono ?_
      rintro e w3 ⟨last', q', b', r', cap', l', rfl, hr3, hB3, K3, hr', h1, h2, h3, h4⟩
      go_wp2_with fail
      have hz := K.size
      refine ⟨⟨q', r', cap', b', l', last', rfl, rfl, hr3, hB3, K.trans K3 (fun y hy => by simp at hy ⊢; omega), by omega, fun e => ?_, Lib.hid ?_⟩, sFar_lt hr hr3 h3⟩
      · have h5 : l.length ≤ 200 * q := by first | exact HLQ.out rfl | exact HLQ.out trivial
        have := h3 e
        omega
      · rcases W.out with h | h | h
        · cases h.1
        · exact .inr (.inl ⟨by omega, h.2⟩)
        · obtain ⟨a1, a2, a3⟩ := h4 h.2.1 h.2.2
          cases b' with
          | true => exact .inl ⟨rfl, a1 rfl⟩
          | false =>
            by_cases hl3 : 300 < l'.length
            · exact .inr (.inl ⟨hl3, a2 rfl hl3⟩)
            · exact .inr (.inr ⟨rfl, by omega, a3 rfl (by omega)⟩)
set_option maxRecDepth 100000 in
theorem sflateget_calls (s : ByteArray) (w : World) :
    Calls Tryd.prog 29 #[.string s] w fun e w' => e = .returned (gotOf s) ∧ On w w' := by
  by_cases h7 : 700 < s.size
  · have h7' : (700 : Int) < s.size := by omega
    have HR : RowKit.Hid (gotOf s = .tuple #[.string ⟨#[]⟩, .int .i64 0, .bool false]) := Lib.hid (by unfold gotOf flate; rw [if_pos (by rw [chars_length]; exact h7)])
    go_enter Tryd.func29, Tryd.ntmps29
    go_wp2_with fail
    go_ret3
    exact ⟨by rw [HR.out]; rfl, On.refl _⟩
  have h7' : ¬ (700 : Int) < s.size := by omega
  go_enter Tryd.func29, Tryd.ntmps29
  go_wp2_with fail
  refine (sget_calls s w (by omega)).mono ?_
  rintro e w1 ⟨rfl, O⟩
  cases hf : flate (chars s) with
  | none =>
    have HG : RowKit.Hid (gotOf s = .tuple #[.string ⟨#[]⟩, .int .i64 0, .bool false]) := Lib.hid (by unfold gotOf; rw [hf])
    rw [HG.out]
    go_wp2_with fail
    go_ret3
    exact ⟨by first | rfl | (rw [HG.out]; rfl), O⟩
  | some p =>
    have HG : RowKit.Hid (gotOf s = .tuple #[.string (strB p.1), .int .i64 (p.2 : Int), .bool true]) := Lib.hid (by unfold gotOf; rw [hf])
    rw [HG.out]
    go_wp2_with fail
    go_ret3
    exact ⟨by first | rfl | (rw [HG.out]; rfl), O⟩
set_option maxRecDepth 100000 in
theorem sflatekind_calls (s : ByteArray) (w : World) :
    Calls Tryd.prog 30 #[.string s] w fun e w' => e = .returned (.int .i64 (kindOf (chars s))) ∧ On w w' := by
  have HC := Lib.hid (sflateget_calls s w)
  go_enter Tryd.func30, Tryd.ntmps30
  go_wp2_with fail
  refine HC.out.mono ?_
  rintro e w1 ⟨rfl, O⟩
  cases hf : flate (chars s) with
  | none =>
    have HG : RowKit.Hid (gotOf s = .tuple #[.string ⟨#[]⟩, .int .i64 0, .bool false]) := Lib.hid (by unfold gotOf; rw [hf])
    have HK : RowKit.Hid (kindOf (chars s) = -1) := Lib.hid (by unfold kindOf; rw [hf])
    rw [HG.out]
    clear hf
    go_wp2_with fail
    go_ret
    exact ⟨by rw [HK.out]; rfl, O⟩
  | some p =>
    have h0 : 0 < s.size := by
      rcases Nat.eq_zero_or_pos s.size with h | h
      · have : chars s = [] := List.eq_nil_of_length_eq_zero (by rw [chars_length]; exact h)
        rw [this, flate_nil] at hf; cases hf
      · exact h
    have HG : RowKit.Hid (gotOf s = .tuple #[.string (strB p.1), .int .i64 (p.2 : Int), .bool true]) := Lib.hid (by unfold gotOf; rw [hf])
    have HK : RowKit.Hid (kindOf (chars s) = ((s[0].toNat / 2 % 4 : Nat) : Int)) := Lib.hid (by unfold kindOf; rw [hf]; simp only []; rw [chars_at s h0])
    rw [HG.out]
    clear hf
    have hb := s[0].toNat_lt
    have h0' : (0 : Int) < s.size := by omega
    have e1 : Int.tdiv (s[0].toNat : Int) 2 = ((s[0].toNat / 2 : Nat) : Int) := tdiv_nat _ 2
    have e2 : Int.tmod ((s[0].toNat / 2 : Nat) : Int) 4 = ((s[0].toNat / 2 % 4 : Nat) : Int) := tmod_nat _ 4
    have HB := Lib.hid hb
    clear hb
    go_wp2_with fail
    go_ret
    have w1 : wrap64 (s[0].toNat : Int) = (s[0].toNat : Int) := by have := HB.out; unfold wrap64; omega
    have w2 : wrap64 ((s[0].toNat / 2 : Nat) : Int) = ((s[0].toNat / 2 : Nat) : Int) := by have := HB.out; unfold wrap64; omega
    refine ⟨?_, O⟩
    rw [HK.out]
    show Ending.returned (.int .i64 ((wrap64 ((wrap64 (s[0].toNat : Int)).tdiv 2)).tmod 4)) = _
    rw [w1, e1, w2, e2]
end Go.Proofs.YtncidljdfipigaaDoor.Wi

/- Tokens of a text, in both programs: the plain ones. Conditions: sizes. -/
namespace Go.Proofs.YtncidljdfipigaaDoor.Wi
open Go.RowKit Go.Proofs.YtncidljdfipigaaDoor.Mem Go.Proofs.YtncidljdfipigaaDoor.Lz
set_option linter.unusedVariables false
set_option linter.unusedSimpArgs false
def tokArr (t : Tok) : Array Value := #[.int .i64 t.byte, .int .i64 t.long, .int .i64 t.back]
def tokCells (l : List Tok) : List Value := l.flatMap fun t => (tokArr t).toList
theorem tokCells_snoc (l : List Tok) (t : Tok) : tokCells (l ++ [t]) = tokCells l ++ (tokArr t).toList := by simp [tokCells]
theorem tokCells_length (l : List Tok) : (tokCells l).length = l.length * 3 := by
  induction l with
  | nil => rfl
  | cons t l ih => unfold tokCells at ih ⊢; rw [List.flatMap_cons, List.length_append, ih, List.length_cons]; simp [tokArr]; omega
/-- What the program holds behind j distances. -/
def held (t : List Nat) (a j : Nat) : Tok := if 3 ≤ (best t a j).1 then ⟨0, ((best t a j).1 : Nat), ((best t a j).2 : Nat)⟩ else ⟨(t.getD a 0 : Nat), 0, 0⟩
theorem held_step (t : List Nat) (a j : Nat) : held t a (j + 1) = if 3 ≤ mlen t a (j + 1) ∧ (held t a j).long < (mlen t a (j + 1) : Nat) then ⟨0, ((mlen t a (j + 1) : Nat) : Int), ((j + 1 : Nat) : Int)⟩ else held t a j := by
  by_cases hn : mlen t a (j + 1) > (best t a j).1
  · have e : best t a (j + 1) = (mlen t a (j + 1), j + 1) := by simp only [best]; rw [if_pos hn]
    unfold held
    rw [e]
    dsimp only
    by_cases h3 : 3 ≤ (best t a j).1
    · rw [if_pos h3, if_pos (by omega)]
      dsimp only
      rw [if_pos (by omega)]
    · rw [if_neg h3]
      dsimp only
      by_cases h : 3 ≤ mlen t a (j + 1)
      · rw [if_pos h, if_pos (by omega)]
      · rw [if_neg h, if_neg (by omega)]
  · have e : best t a (j + 1) = best t a j := by simp only [best]; rw [if_neg hn]
    unfold held
    rw [e]
    by_cases h3 : 3 ≤ (best t a j).1
    · rw [if_pos h3]
      dsimp only
      rw [if_neg (by omega)]
    · rw [if_neg h3]
      dsimp only
      rw [if_neg (by omega)]
theorem held_long (t : List Nat) (a j : Nat) : ∃ L : Nat, (held t a j).long = (L : Int) ∧ L ≤ 60 := by
  have := best_le_60 t a j
  unfold held
  split
  · exact ⟨_, rfl, this⟩
  · exact ⟨0, rfl, by omega⟩
theorem held_form (t : List Nat) (a j : Nat) : ∃ (x : Int) (L : Nat) (z : Int), held t a j = ⟨x, L, z⟩ ∧ L ≤ 60 := by
  obtain ⟨L, h1, h2⟩ := held_long t a j
  exact ⟨(held t a j).byte, L, (held t a j).back, by rw [← h1], h2⟩
theorem toks_step (t : List Nat) (a : Nat) (ha : a < t.length) : toks t (t.length - a) a = held t a (min 250 a) :: toks t (t.length - (a + max ((held t a (min 250 a)).long).toNat 1)) (a + max ((held t a (min 250 a)).long).toNat 1) ∧ a + max ((held t a (min 250 a)).long).toNat 1 ≤ t.length := by
  obtain ⟨f, hf⟩ : ∃ f, t.length - a = f + 1 := ⟨t.length - a - 1, by omega⟩
  have hb := best_le t a (min 250 a)
  rw [hf]
  simp only [toks]
  rw [if_pos ha]
  unfold held
  by_cases h : (best t a (min 250 a)).1 < 3
  · rw [if_pos h, if_neg (by omega)]
    simp only
    rw [show (Int.toNat 0) = 0 from rfl, show max 0 1 = 1 from rfl, show t.length - (a + 1) = f from by omega]
    exact ⟨rfl, by omega⟩
  · rw [if_neg h, if_pos (by omega)]
    simp only [Int.toNat_natCast]
    rw [show max (best t a (min 250 a)).1 1 = (best t a (min 250 a)).1 from by omega]
    exact ⟨by rw [toks_more t f (t.length - (a + (best t a (min 250 a)).1)) _ (by omega) (by omega)], by omega⟩
theorem toks_end (t : List Nat) (a : Nat) (ha : t.length ≤ a) : toks t (t.length - a) a = [] := by
  rw [show t.length - a = 0 from by omega]; rfl
theorem run_step {t : List Nat} {a back n : Nat} (hn : n + run t (a + n) (a + n - back) (60 - n) = mlen t a back) (h1 : 1 ≤ back) (h2 : back ≤ a) (hc : n < 60 ∧ a + n < t.length ∧ t[a + n]? = t[a + n - back]?) :
    n + 1 + run t (a + (n + 1)) (a + (n + 1) - back) (60 - (n + 1)) = mlen t a back := by
  obtain ⟨f, hf⟩ : ∃ f, 60 - n = f + 1 := ⟨60 - n - 1, by omega⟩
  rw [hf] at hn
  simp only [run] at hn
  rw [if_pos hc.2] at hn
  rw [show 60 - (n + 1) = f from by omega, show a + (n + 1) = a + n + 1 from by omega, show a + n + 1 - back = a + n - back + 1 from by omega]
  omega
theorem run_stop {t : List Nat} {a back n : Nat} (hn : n + run t (a + n) (a + n - back) (60 - n) = mlen t a back) (hc : ¬ (n < 60 ∧ a + n < t.length ∧ t[a + n]? = t[a + n - back]?)) : n = mlen t a back := by
  by_cases h60 : n < 60
  · obtain ⟨f, hf⟩ : ∃ f, 60 - n = f + 1 := ⟨60 - n - 1, by omega⟩
    rw [hf] at hn
    simp only [run] at hn
    rw [if_neg (fun h => hc ⟨h60, h⟩)] at hn
    omega
  · rw [show 60 - n = 0 from by omega] at hn
    simp only [run] at hn
    omega
theorem tokinfo : (Tryd.prog.info? 67).map (fun i => (i.zero, i.size, i.bytes)) = some (some (.agg #[.int .i64 0, .int .i64 0, .int .i64 0]), 3, 24) := by kernel_rfl
/-- What a contract tells that makes tokens. -/
def GivesT (w : World) (l : List Tok) (e : Ending) (w' : World) : Prop := ∃ r cap, e = .returned (.slice (some ⟨r, 0, none⟩) l.length cap) ∧ Row w' r 67 (tokCells l) ∧ l.length ≤ cap ∧ cap ≤ maxLen ∧ w.heap.size ≤ r ∧ On w w'
def toksOf (s : ByteArray) : List Tok := if s.size ≤ 300 then tokens (chars s) else []
set_option maxRecDepth 100000 in
set_option maxHeartbeats 1000000 in
theorem itoks_calls (s : ByteArray) (w : World) : Calls Tryd.prog 59 #[.string s] w (GivesT w (toksOf s)) := by
  by_cases hs : s.size ≤ 300
  · have hs' : (s.size : Int) ≤ 300 := by omega
    have ht : toksOf s = tokens (chars s) := by unfold toksOf; rw [if_pos hs]
    have HT := Lib.hid ht
    have htl : (chars s).length = s.size := chars_length s
    have hat : ∀ i (h : i < s.size), (chars s)[i]? = some s[i].toNat := fun i h => by
      have := chars_at s h
      rw [List.getD_eq_getElem?_getD, List.getElem?_eq_getElem (by rw [htl]; exact h)] at this
      rw [List.getElem?_eq_getElem (by rw [htl]; exact h)]
      exact congrArg some this
    have h0 : tokens (chars s) = [] ++ toks (chars s) ((chars s).length - 0) 0 := rfl
    generalize chars s = t at *
    have HTL := Lib.hid htl
    have HAT := Lib.hid hat
    have H0 := Lib.hid h0
    clear ht htl hat h0
    go_enter Tryd.func59, Tryd.ntmps59
    go_wp2_with fail
    go_loopw [3, 4] (fun v x wr => ∃ (a : Nat) (done : List Tok), x = .int .i64 (a : Int) ∧ a ≤ s.size ∧ done.length ≤ a ∧ RowKit.Hid (tokens t = done ++ toks t (t.length - a) a) ∧ Own w.heap.size wr 67 3 v done.length (tokCells done) ∧ On w wr) (fun _ x _ => s.size - (intOf x).toNat)
    case atStart => exact ⟨0, [], rfl, by omega, by simp, H0, Own.new w 67 3 #[] 0 (Nat.zero_le _) rfl (Nat.le_refl _), (On.refl w).alloc _⟩
    case round =>
      obtain ⟨a, done, rfl, ha, hd, hT, hown, O⟩ := hrel
      by_cases hlt : a < s.size
      · obtain ⟨b, hbb⟩ : ∃ b, s[a] = b := ⟨_, rfl⟩
        have hbt : t.getD a 0 = b.toNat := by rw [List.getD_eq_getElem?_getD, HAT.out a hlt, hbb]; rfl
        have HBT := Lib.hid hbt
        obtain ⟨wo, hwo⟩ : ∃ wo : World, wo = wr := ⟨_, rfl⟩
        subst hwo
        have hb256 : (b.toNat : Int) < 256 := by have := b.toNat_lt; omega
        have hh0 : held t a 0 = ⟨(b.toNat : Int), 0, 0⟩ := by rw [← hbt]; rfl
        have HH0 := Lib.hid hh0
        clear hbt hh0
        go_wp2_with fail
        have BB := Blk.new wo 67 #[.int .i64 (b.toNat : Int), .int .i64 0, .int .i64 0]
        have OB := (On.refl wo).alloc (.cells #[.int .i64 (b.toNat : Int), .int .i64 0, .int .i64 0] 67)
        generalize hB : wo.heap.size = B at *
        generalize wo.alloc (.cells #[.int .i64 (b.toNat : Int), .int .i64 0, .int .i64 0] 67) = w1 at *
        have HB := Lib.hid hB
        clear hB
        have hmn : (if (a : Int) < 250 then (a : Int) else 250) = ((min 250 a : Nat) : Int) := by split <;> omega
        have hm1 : min 250 a ≤ 250 := by omega
        have hm2 : min 250 a ≤ a := by omega
        have hts := toks_step t a (by rw [HTL.out]; exact hlt)
        have HTS := Lib.hid hts
        clear hts
        generalize min 250 a = m at *
        go_loopw [6] (fun x wr => ∃ j : Nat, x = .int .i64 ((j : Int) + 1) ∧ j ≤ m ∧ Blk wr B 67 (tokArr (held t a j)) ∧ Kp [B] w1 wr) (fun x _ => 251 - (intOf x).toNat)
        case atStart => exact ⟨0, rfl, by omega, by rw [HH0.out]; exact BB, Kp.refl _ _⟩
        case round =>
          obtain ⟨j, rfl, hj, hblk, K⟩ := hrel
          have hst := held_step t a j
          by_cases hjl : j < m
          · have hj1 : (j : Int) + 1 ≤ m := by omega
            have hj2 : (j : Int) + 1 ≤ a := by omega
            obtain ⟨wp, hwp⟩ : ∃ wp : World, wp = wr := ⟨_, rfl⟩
            subst hwp
            obtain ⟨x0, L, z0, hd2, hL⟩ := held_form t a j
            rw [hd2] at hblk hst
            have HST := Lib.hid hst
            clear hst hd2
            go_wp2_with fail
            go_loopw [7] (fun x wr => ∃ n : Nat, x = .int .i64 (n : Int) ∧ n ≤ 60 ∧ RowKit.Hid (n + run t (a + n) (a + n - (j + 1)) (60 - n) = mlen t a (j + 1)) ∧ On wp wr) (fun x _ => 60 - (intOf x).toNat)
            case atStart => exact ⟨0, rfl, by omega, Lib.hid (by simp [mlen]), On.refl _⟩
            case round =>
              obtain ⟨n, rfl, hn, hrun, O3⟩ := hrel
              have q1 : IntKind.i64.wrap ((a : Int) + (n : Int)) = ((a + n : Nat) : Int) := by rw [IntKind.wrap_i64]; omega
              have q2 : IntKind.i64.wrap (((a + n : Nat) : Int) - ((j : Int) + 1)) = ((a + n - (j + 1) : Nat) : Int) := by rw [IntKind.wrap_i64]; omega
              have hq : a + n - (j + 1) < a + n := by omega
              have hq2 : a + n ≤ 400 := by omega
              have hcont : n < 60 ∧ a + n < t.length ∧ t[a + n]? = t[a + n - (j + 1)]? ∨ ¬ (n < 60 ∧ a + n < t.length ∧ t[a + n]? = t[a + n - (j + 1)]?) := Classical.em _
              have hgo := run_step hrun.out (by omega) (by omega)
              have hend := run_stop hrun.out
              generalize hp : a + n = p at hcont hend q1 q2 hq hq2
              generalize hpq : p - (j + 1) = q at hcont hend q2 hq
              rw [hp, hpq] at hgo
              have HP := Lib.hid hp
              have HPQ := Lib.hid hpq
              have HGO := Lib.hid hgo
              have HEND := Lib.hid hend
              clear hp hpq hgo hend hrun
              rcases hcont with hc | hc
              · have hx2 := Lib.hid (HGO.out hc)
                have hc1 : (n : Int) < 60 := by have := hc.1; omega
                have hps : p < s.size := by have := hc.2.1; rw [HTL.out] at this; exact this
                have hqs : q < s.size := by omega
                have hxy : s[p] = s[q] := by
                  have := hc.2.2
                  rw [HAT.out p hps, HAT.out q hqs] at this
                  exact UInt8.toNat_inj.1 (Option.some.inj this)
                have hps' : (p : Int) < s.size := by omega
                have hqs' : (q : Int) < s.size := by omega
                have hb : (((s[p]).toNat : Int) == ((s[q]).toNat : Int)) = true := by rw [hxy]; simp
                clear hc hxy
                generalize hx : s[p] = x at *
                generalize hy : s[q] = y at *
                go_wp2_with fail
                go_quiet (fail)
                go_wp2_with fail
                exact ⟨⟨n + 1, by go_num, by omega, hx2, O3.drewN _⟩, by simp [intOf]; omega⟩
              · have hx2 := HEND.out hc
                have hstop : decide ((n : Int) < 60) = false ∨ (decide ((n : Int) < 60) = true ∧ decide (p < s.size) = false) ∨
                    (decide ((n : Int) < 60) = true ∧ decide (p < s.size) = true ∧ decide (q < s.size) = true ∧ ∃ (hp : p < s.size) (hq : q < s.size), (((s[p]).toNat : Int) == ((s[q]).toNat : Int)) = false) := by
                  by_cases h1 : n < 60
                  · by_cases h2 : p < s.size
                    · refine .inr (.inr ⟨by simp; omega, by simp; omega, by simp; omega, h2, by omega, ?_⟩)
                      rw [beq_eq_false_iff_ne]
                      intro e
                      apply hc
                      refine ⟨h1, by rw [HTL.out]; exact h2, ?_⟩
                      rw [HAT.out p h2, HAT.out q (by omega)]
                      congr 1; omega
                    · exact .inr (.inl ⟨by simp; omega, by simp; omega⟩)
                  · exact .inl (by simp; omega)
                have b1 := O3.blk hblk
                have KK := K.then (Kp.of [B] O3)
                have c1 : wr.cell? ⟨B, 1, none⟩ = some (.int .i64 (L : Int)) := (b1.cell 1).trans rfl
                have cf : ∀ i, wr.frozen? ⟨B, i, none⟩ = false := b1.frozen
                have c0 : wr.cell? ⟨B, 0, none⟩ = some (.int .i64 x0) := (b1.cell 0).trans rfl
                have c2 : wr.cell? ⟨B, 2, none⟩ = some (.int .i64 z0) := (b1.cell 2).trans rfl
                have HX2 := Lib.hid hx2
                clear hc hx2
                rcases hstop with h | ⟨h1, h2⟩ | ⟨h1, h2, h3, hp, hq, h4⟩
                · go_wp2_with fail
                  go_quiet (fail)
                  by_cases h3 : 3 ≤ n
                  · have h3' : (3 : Int) ≤ n := by omega
                    by_cases hLn : L < n
                    · have hLn' : (L : Int) < n := by omega
                      go_wp2_with fail
                      refine ⟨⟨j + 1, by go_num, by omega, ?_, ?_⟩, by simp [intOf]; omega⟩
                      · rw [HST.out, ← HX2.out, if_pos ⟨h3, hLn'⟩]
                        exact (((b1.drewN nq).set 0 _).set 1 _).set 2 _
                      · exact (((KK.drewN nq).set (.inl (by simp)) _).set (.inl (by simp)) _).set (.inl (by simp)) _
                    · have hLn' : ¬ (L : Int) < n := by omega
                      go_wp2_with fail
                      refine ⟨⟨j + 1, by go_num, by omega, ?_, KK.drewN nq⟩, by simp [intOf]; omega⟩
                      rw [HST.out, ← HX2.out, if_neg (fun h => hLn' h.2)]
                      exact b1.drewN nq
                  · have h3' : ¬ (3 : Int) ≤ n := by omega
                    go_wp2_with fail
                    refine ⟨⟨j + 1, by go_num, by omega, ?_, KK.drewN nq⟩, by simp [intOf]; omega⟩
                    rw [HST.out, ← HX2.out, if_neg (fun h => h3 h.1)]
                    exact b1.drewN nq
                · go_wp2_with fail
                  go_quiet (fail)
                  by_cases h3 : 3 ≤ n
                  · have h3' : (3 : Int) ≤ n := by omega
                    by_cases hLn : L < n
                    · have hLn' : (L : Int) < n := by omega
                      go_wp2_with fail
                      refine ⟨⟨j + 1, by go_num, by omega, ?_, ?_⟩, by simp [intOf]; omega⟩
                      · rw [HST.out, ← HX2.out, if_pos ⟨h3, hLn'⟩]
                        exact (((b1.drewN nq).set 0 _).set 1 _).set 2 _
                      · exact (((KK.drewN nq).set (.inl (by simp)) _).set (.inl (by simp)) _).set (.inl (by simp)) _
                    · have hLn' : ¬ (L : Int) < n := by omega
                      go_wp2_with fail
                      refine ⟨⟨j + 1, by go_num, by omega, ?_, KK.drewN nq⟩, by simp [intOf]; omega⟩
                      rw [HST.out, ← HX2.out, if_neg (fun h => hLn' h.2)]
                      exact b1.drewN nq
                  · have h3' : ¬ (3 : Int) ≤ n := by omega
                    go_wp2_with fail
                    refine ⟨⟨j + 1, by go_num, by omega, ?_, KK.drewN nq⟩, by simp [intOf]; omega⟩
                    rw [HST.out, ← HX2.out, if_neg (fun h => h3 h.1)]
                    exact b1.drewN nq
                · generalize hx : s[p] = x at *
                  generalize hy : s[q] = y at *
                  go_wp2_with fail
                  go_quiet (fail)
                  by_cases h3 : 3 ≤ n
                  · have h3' : (3 : Int) ≤ n := by omega
                    by_cases hLn : L < n
                    · have hLn' : (L : Int) < n := by omega
                      go_wp2_with fail
                      refine ⟨⟨j + 1, by go_num, by omega, ?_, ?_⟩, by simp [intOf]; omega⟩
                      · rw [HST.out, ← HX2.out, if_pos ⟨h3, hLn'⟩]
                        exact (((b1.drewN nq).set 0 _).set 1 _).set 2 _
                      · exact (((KK.drewN nq).set (.inl (by simp)) _).set (.inl (by simp)) _).set (.inl (by simp)) _
                    · have hLn' : ¬ (L : Int) < n := by omega
                      go_wp2_with fail
                      refine ⟨⟨j + 1, by go_num, by omega, ?_, KK.drewN nq⟩, by simp [intOf]; omega⟩
                      rw [HST.out, ← HX2.out, if_neg (fun h => hLn' h.2)]
                      exact b1.drewN nq
                  · have h3' : ¬ (3 : Int) ≤ n := by omega
                    go_wp2_with fail
                    refine ⟨⟨j + 1, by go_num, by omega, ?_, KK.drewN nq⟩, by simp [intOf]; omega⟩
                    rw [HST.out, ← HX2.out, if_neg (fun h => h3 h.1)]
                    exact b1.drewN nq
          · obtain rfl : j = m := by omega
            obtain ⟨x0, L, z0, hd2, hL⟩ := held_form t a j
            have HD := Lib.hid hd2
            rw [hd2] at hblk
            have c0 : wr.cell? ⟨B, 0, none⟩ = some (.int .i64 x0) := (hblk.cell 0).trans rfl
            have c1 : wr.cell? ⟨B, 1, none⟩ = some (.int .i64 (L : Int)) := (hblk.cell 1).trans rfl
            have c2 : wr.cell? ⟨B, 2, none⟩ = some (.int .i64 z0) := (hblk.cell 2).trans rfl
            have hne : ∀ k, u3.ownBlock = some k → k ≠ B := fun k hk => by have := (hown.own.lt k hk).2; rw [← HB.out]; omega
            have hown2 : Own w.heap.size wr 67 3 u3 done.length (tokCells done) := ⟨K.owns (own_on hown.own OB) (fun k hk => by simpa using hne k hk), hown.nn⟩
            have O2 : On w wr := K.on (O.call OB) (fun x hx => by simp at hx; rw [hx, ← HB.out]; exact O.size)
            have hneB : u3.ownBlock ≠ some B := fun h => hne B h rfl
            have HNB := Lib.hid hneB
            obtain ⟨i0, hi, hz0, hz1, hz2⟩ := info_parts tokinfo
            have hmx : (if (L : Int) < 1 then (1 : Int) else L) = ((max L 1 : Nat) : Int) := by split <;> omega
            have hdl : done.length ≤ 300 := by omega
            clear hd2 hst hne hown hneB hjl
            go_wp2_with (at_builtin; go_must (refine wpList_app rfl _ _ 64 rfl w i0 (.agg #[.int .i64 0, .int .i64 0, .int .i64 0]) 24 3 Tryd.underlying64 hi hz0 hz1 hz2 rfl (by decide) rfl _ _ _ rfl hown2 O2 rfl (by simp [Value.oneCell']) (by unfold maxLen; omega) (by omega) ?_); intro v' w2 hown' O' hk; have b2 := hk B _ _ hblk HNB.out; have d1 : w2.cell? ⟨B, 1, none⟩ = some (.int .i64 (L : Int)) := (b2.cell 1).trans rfl)
            obtain ⟨ht1, ht2⟩ := HTS.out
            have hTl := hT.out
            rw [HD.out] at ht1 ht2
            simp only [Int.toNat_natCast] at ht1 ht2
            go_roundw
            case rel =>
              refine ⟨a + max L 1, done ++ [⟨x0, (L : Int), z0⟩], by go_num, by rw [HTL.out] at ht2; exact ht2, by rw [List.length_append, List.length_singleton]; omega, Lib.hid (by rw [hTl, ht1, List.append_assoc]; rfl), ?_, O'⟩
              rw [List.length_append, List.length_singleton, tokCells_snoc]
              exact hown'
            case measure => simp [intOf]; omega
      · obtain rfl : a = s.size := by omega
        have hT2 := hT.out
        rw [toks_end t _ (by rw [HTL.out]; exact Nat.le_refl _), List.append_nil] at hT2
        have HT2 := Lib.hid hT2
        obtain ⟨g, cap, rfl, hg, R, hn1, hcap, hlen⟩ := hown.parts
        clear hT2
        go_wp2_with fail
        go_ret
        refine ⟨g, cap, ?_, ?_, ?_, hcap, hg, O⟩
        · rw [HT.out, HT2.out]; rfl
        · rw [HT.out, HT2.out]; exact R
        · rw [HT.out, HT2.out]; exact hn1
  · have hs' : (300 : Int) < s.size := by omega
    have ht : toksOf s = [] := by unfold toksOf; rw [if_neg hs]
    have HT := Lib.hid ht
    clear ht
    go_enter Tryd.func59, Tryd.ntmps59
    go_wp2_with fail
    go_ret
    exact ⟨w.heap.size, 0, by rw [HT.out]; rfl, by rw [HT.out]; exact Row.of (Blk.new w 67 #[]), by rw [HT.out]; exact Nat.le_refl _, Nat.zero_le _, Nat.le_refl _, (On.refl w).alloc _⟩
end Go.Proofs.YtncidljdfipigaaDoor.Wi

/- Tokens as they are written by two codes, in the program. Conditions: the codes have all symbols; sizes. -/
namespace Go.Proofs.YtncidljdfipigaaDoor.Wi
open Go.RowKit Go.Proofs.YtncidljdfipigaaDoor.Mem Go.Proofs.YtncidljdfipigaaDoor.Bt Go.Proofs.YtncidljdfipigaaDoor.Cd Go.Proofs.YtncidljdfipigaaDoor.De Go.Proofs.YtncidljdfipigaaDoor.En Go.Proofs.YtncidljdfipigaaDoor.Lz
set_option linter.unusedVariables false
set_option linter.unusedSimpArgs false
theorem IW.lt {w : World} {g r : Nat} {bs : List Bool} (h : IW w g r bs) (hne : bs ≠ []) : r < w.heap.size := by
  obtain ⟨v, hb, hy, _⟩ := h.out
  have : pack bs ≠ [] := by
    intro e
    have := pack_length bs
    rw [e] at this
    have := List.length_pos_iff.2 hne
    simp at *; omega
  obtain ⟨_, _, _, _, R⟩ := hy.parts this
  exact R.lt
theorem SW.glt {w : World} {g r : Nat} {bs : List Bool} (h : SW w g r bs) : g < w.heap.size := by obtain ⟨v, hb, _⟩ := h.out; exact hb.lt
theorem IW.glt {w : World} {g r : Nat} {bs : List Bool} (h : IW w g r bs) : g < w.heap.size := by obtain ⟨v, hb, _⟩ := h.out; exact hb.lt
theorem tok_get {l : List Tok} {k : Nat} (hk : k < l.length) : (tokCells l)[k * 3]? = some (.int .i64 l[k].byte) ∧ (tokCells l)[k * 3 + 1]? = some (.int .i64 l[k].long) ∧ (tokCells l)[k * 3 + 2]? = some (.int .i64 l[k].back) := by
  induction l generalizing k with
  | nil => simp at hk
  | cons t l ih =>
    have e : tokCells (t :: l) = (tokArr t).toList ++ tokCells l := by simp [tokCells]
    rw [e]
    cases k with
    | zero => exact ⟨rfl, rfl, rfl⟩
    | succ k =>
      have h3 : (tokArr t).toList.length = 3 := rfl
      have := ih (k := k) (by simpa using hk)
      refine ⟨?_, ?_, ?_⟩
      · rw [List.getElem?_append_right (by omega), h3, show (k + 1) * 3 - 3 = k * 3 from by omega]; exact this.1
      · rw [List.getElem?_append_right (by omega), h3, show (k + 1) * 3 + 1 - 3 = k * 3 + 1 from by omega]; exact this.2.1
      · rw [List.getElem?_append_right (by omega), h3, show (k + 1) * 3 + 2 - 3 = k * 3 + 2 from by omega]; exact this.2.2
/-- What is written of a token: codes short enough. -/
structure Fine (lit dist : List Nat) (t : Tok) : Prop where
  byte : t.long = 0 → 0 ≤ t.byte ∧ t.byte ≤ 255
  long : t.long ≠ 0 → 3 ≤ t.long ∧ t.long ≤ 60 ∧ 1 ≤ t.back ∧ t.back ≤ 250
theorem fine_of {lit dist : List Nat} {l : List Tok} {out o : List Nat} (h : text out l = some o) : ∀ t ∈ l, Fine lit dist t := fun t ht => by
  obtain ⟨o1, o2, ha⟩ := text_adds l out o h t ht
  refine ⟨fun h0 => ?_, fun h0 => ?_⟩
  · have := add_byte ha h0; exact ⟨this.2.1, this.2.2.1⟩
  · have := add_long ha h0; exact this.2
theorem enc_length (lens : List Nat) (h15 : ∀ x ∈ lens, x ≤ 15) (s : Nat) : (enc lens s).length ≤ 15 := by
  unfold enc; rw [List.length_reverse, bits_length]; exact getD_le h15 s
theorem encTok_le {lit dist : List Nat} {t : Tok} (F : Fine lit dist t) (l15 : ∀ x ∈ lit, x ≤ 15) (d15 : ∀ x ∈ dist, x ≤ 15) : (encTok lit dist t).length ≤ 50 := by
  unfold encTok
  split
  · have := enc_length lit l15 t.byte.toNat; omega
  · rename_i h
    obtain ⟨l3, l60, k1, k250⟩ := F.long h
    obtain ⟨a1, a2, a3, a4⟩ := lad_long t.long.toNat (by omega) (by omega)
    obtain ⟨c1, c2, c3, c4⟩ := lad_back t.back.toNat (by omega) (by omega)
    have := enc_length lit l15 (257 + lad longBase t.long.toNat)
    have := enc_length dist d15 (lad backBase t.back.toNat)
    simp only [List.length_append, bits_length]
    omega
theorem flat_le {lit dist : List Nat} {l : List Tok} (F : ∀ t ∈ l, Fine lit dist t) (l15 : ∀ x ∈ lit, x ≤ 15) (d15 : ∀ x ∈ dist, x ≤ 15) : ∀ k, ((l.take k).flatMap (encTok lit dist)).length ≤ 50 * k := by
  intro k
  induction k with
  | zero => simp
  | succ k ih =>
    by_cases h : k < l.length
    · rw [List.take_succ_eq_append_getElem h, List.flatMap_append, List.length_append]
      have := encTok_le (F _ (List.getElem_mem h)) l15 d15
      simp only [List.flatMap_cons, List.flatMap_nil, List.append_nil]
      omega
    · rw [List.take_of_length_le (by omega)]
      rw [List.take_of_length_le (by omega)] at ih
      omega
theorem Mv.out {g r q r' : Nat} {w w' : World} (M : Mv g r w r' w') (hq : q < w.heap.size) (h : q ∉ [g, r]) : q ∉ [g, r'] := by
  simp only [List.mem_cons, List.not_mem_nil, or_false, not_or] at h ⊢
  rcases M.at_ with e | e <;> omega
theorem not_in {q g r : Nat} (h1 : q ≠ g) (h2 : q ≠ r) : q ∉ [g, r] := by simp [h1, h2]
theorem field_fst (x y : Value) (w : World) : (Instr.field 69 (.agg #[x, y]) 0).run Tryd.prog w = .ok x w := by kernel_rfl
theorem field_snd (x y : Value) (w : World) : (Instr.field 69 (.agg #[x, y]) 1).run Tryd.prog w = .ok y w := by kernel_rfl
set_option maxRecDepth 100000 in
set_option maxHeartbeats 2000000 in
theorem itokens_calls (g r q n cap gl ol nl cl gd od nd cd : Nat) (bs : List Bool) (l : List Tok) (lit dist : List Nat) (w : World) (hw : IW w g r bs) (hne : bs ≠ []) (hb : bs.length ≤ 100000)
    (hq : Row w q 67 (tokCells l)) (hl : RowO w gl ol 3 (i64s lit)) (hd : RowO w gd od 3 (i64s dist)) (hn : l.length = n) (hn2 : n ≤ 1000) (hnc : n ≤ cap) (hnl : lit.length = nl) (hnd : dist.length = nd) (hnlc : nl ≤ cl) (hndc : nd ≤ cd)
    (hnl2 : nl ≤ 1000) (hnd2 : nd ≤ 1000) (H : Has lit dist l) (F : ∀ t ∈ l, Fine lit dist t) (fq : q ∉ [g, r]) (fl : gl ∉ [g, r]) (fd : gd ∉ [g, r]) :
    Calls Tryd.prog 58 #[.pointer (some ⟨g, 0, none⟩), .slice (some ⟨q, 0, none⟩) n cap, .slice (some ⟨gl, ol, none⟩) nl cl, .slice (some ⟨gd, od, none⟩) nd cd] w fun e w' => ∃ r', e = .returned (.tuple #[]) ∧ IW w' g r' (bs ++ encToks lit dist l) ∧ Mv g r w r' w' := by
  have HN := Lib.hid hn
  have HNL := Lib.hid hnl
  have HND := Lib.hid hnd
  have HF := Lib.hid F
  have HH := Lib.hid H
  have HW := Lib.hid hw
  have hr := hw.lt hne
  have hg := hw.glt
  have FQ := Lib.hid fq
  have FL := Lib.hid fl
  have FD := Lib.hid fd
  clear hn hnl hnd F H hw fq fl fd
  go_enter Tryd.func58, Tryd.ntmps58
  go_wp2_with fail
  refine (icodes_calls lit gl ol nl cl w hl HNL.out hnl2 hnlc).mono ?_
  rintro e w1 ⟨ra, ca, rfl, Na, ha1, ha2, O1⟩
  rw [codes_length, HNL.out] at Na ⊢
  go_wp2_with fail
  refine (icodes_calls dist gd od nd cd w1 (hd.on O1) HND.out hnd2 hndc).mono ?_
  rintro e w2 ⟨rb, cb, rfl, Nb, hb1, hb2, O2⟩
  rw [codes_length, HND.out] at Nb ⊢
  have Ra := (Na.on O2).row.1.toO
  have Rb := Nb.row.1.toO
  have OW := O1.call O2
  have hq2 := hq.on OW
  have hl2 := hl.on OW
  have hd2 := hd.on OW
  have hs1 := O1.size
  have hw2 : RowKit.Hid (IW w2 g r bs) := Lib.hid (HW.out.on OW)
  have FA : RowKit.Hid (ra ∉ [g, r]) := Lib.hid (not_in (by omega) (by omega))
  have FB : RowKit.Hid (rb ∉ [g, r]) := Lib.hid (not_in (by omega) (by omega))
  clear Na Nb
  go_wp2_with fail
  go_loopw [19] (fun x wr => ∃ (k r' : Nat), x = .int .i64 (k : Int) ∧ k ≤ n ∧ IW wr g r' (bs ++ (l.take k).flatMap (encTok lit dist)) ∧ Mv g r w2 r' wr) (fun x _ => n - (intOf x).toNat)
  case atStart => exact ⟨0, r, rfl, by omega, by simpa using hw2.out, Mv.refl _ _ _⟩
  case round =>
    obtain ⟨k, r', rfl, hk, hwr, M⟩ := hrel
    by_cases hlt : k < n
    · have hkl : k < l.length := by rw [HN.out]; exact hlt
      obtain ⟨t0, t1, t2⟩ := tok_get hkl
      have hstep : (l.take (k + 1)).flatMap (encTok lit dist) = (l.take k).flatMap (encTok lit dist) ++ encTok lit dist l[k] := by
        rw [List.take_succ_eq_append_getElem hkl, List.flatMap_append]; simp
      have Ft := HF.out _ (List.getElem_mem hkl)
      have Hby := HH.out.byte _ (List.getElem_mem hkl)
      have Hlo := HH.out.long _ (List.getElem_mem hkl)
      have Hba := HH.out.back _ (List.getElem_mem hkl)
      have hfl := flat_le HF.out HH.out.l15 HH.out.d15 k
      have R := M.kp.row hq2 FQ.out
      have c0 := R.cell t0
      have c1 := R.cell t1
      have c2 := R.cell t2
      have hbl : (bs ++ (l.take k).flatMap (encTok lit dist)).length ≤ 200000 := by rw [List.length_append]; omega
      have hst2 : bs ++ (l.take (k + 1)).flatMap (encTok lit dist) = (bs ++ (l.take k).flatMap (encTok lit dist)) ++ encTok lit dist l[k] := by rw [hstep, List.append_assoc]
      generalize l[k] = t at *
      generalize hbk : bs ++ (l.take k).flatMap (encTok lit dist) = bk at *
      have hbne : bk ≠ [] := by rw [← hbk]; simp [hne]
      have HNE := Lib.hid hbne
      have HST := Lib.hid hst2
      clear hbk hbne t0 t1 t2 hstep hst2
      obtain ⟨tb, tl, tk⟩ := t
      simp only at c0 c1 c2 Ft Hby Hlo Hba
      by_cases h0 : tl = 0
      · subst h0
        have hbyte := Ft.byte rfl
        obtain ⟨b, rfl⟩ := Int.eq_ofNat_of_zero_le hbyte.1
        have Hb1 := Hby rfl
        have hbn : ((b : Int)).toNat = b := by omega
        simp only [Int.ofNat_eq_natCast, hbn] at Hb1
        have hlt1 := lt_of_getD Hb1
        have hcl := code_lt HH.out.fl hlt1 Hb1 (getD_le HH.out.l15 b)
        have hen : encTok lit dist ⟨(b : Int), 0, tk⟩ = enc lit b := by unfold encTok; rw [if_pos rfl]; rfl
        have HEN := Lib.hid hen
        have h15 := getD_le HH.out.l15 b
        have OA := (On.refl wr).alloc (.cells #[.int .i64 (b : Int), .int .i64 0, .int .i64 tk] 67)
        have hc := code_calls g r' bk lit gl ol nl cl ra nl ca b _ (hwr.on OA) (by omega) ((hl2.kp M.kp FL.out).on OA) ((Ra.kp M.kp FA.out).on OA) HNL.out rfl hlt1 h15 hcl (M.out hl2.lt FL.out) (M.out Ra.lt FA.out)
        have HC := Lib.hid hc
        clear hen hc hbn Ft Hby Hlo Hba
        go_wp2_with fail
        refine HC.out.mono ?_
        rintro e w3 ⟨r3, rfl, hw3, M3⟩
        go_wp2_with fail
        refine ⟨⟨k + 1, r3, by go_num, by omega, ?_, M.trans ((mv_on g r' OA).trans M3)⟩, by simp [intOf]; omega⟩
        rw [HST.out, HEN.out]
        exact hw3
      · obtain ⟨l3, l60, k1, k250⟩ := Ft.long h0
        simp only at l3 l60 k1 k250
        have Hl1 := Hlo h0
        have Hb1 := Hba h0
        obtain ⟨tln, rfl⟩ := Int.eq_ofNat_of_zero_le (show 0 ≤ tl by omega)
        obtain ⟨tkn, rfl⟩ := Int.eq_ofNat_of_zero_le (show 0 ≤ tk by omega)
        have h0' : ((tln : Int) == 0) = false := by simp; omega
        have hen : encTok lit dist ⟨tb, (tln : Int), (tkn : Int)⟩ = enc lit (257 + lad longBase tln) ++ (bitsOf (tln - longBase.getD (lad longBase tln) 0) (longBits.getD (lad longBase tln) 0) ++ (enc dist (lad backBase tkn) ++ bitsOf (tkn - backBase.getD (lad backBase tkn) 0) (backBits.getD (lad backBase tkn) 0))) := by
          unfold encTok; rw [if_neg (by simp; omega)]; rfl
        have HEN := Lib.hid hen
        simp only [Int.ofNat_eq_natCast, Int.toNat_natCast] at *
        obtain ⟨a1, a2, a3, a4⟩ := lad_long tln (by omega) (by omega)
        obtain ⟨b1, b2, b3, b4⟩ := lad_back tkn (by omega) (by omega)
        clear hen Ft Hby Hlo Hba
        have OA := (On.refl wr).alloc (.cells #[.int .i64 tb, .int .i64 (tln : Int), .int .i64 (tkn : Int)] 67)
        have BA := Blk.new wr 67 #[.int .i64 tb, .int .i64 (tln : Int), .int .i64 (tkn : Int)]
        have hg1 := hwr.glt
        have hr1 := hwr.lt HNE.out
        have hwa := hwr.on OA
        have HWA := Lib.hid hwa
        have MA := M.trans (mv_on g r' OA)
        have hfL := fun r1 q1 r2 q2 W R1 h => find_calls longBase r1 28 q1 tln (.slice (some ⟨r2, 0, none⟩) 28 q2) W R1 (by decide) (by omega) h (by omega) (by show 3 ≤ tln; omega) long_rising (by omega) ⟨r2, q2, rfl⟩
        have hfB := fun r1 q1 r2 q2 W R1 h => find_calls backBase r1 30 q1 tkn (.slice (some ⟨r2, 0, none⟩) 30 q2) W R1 (by decide) (by omega) h (by omega) (by show 1 ≤ tkn; omega) back_rising (by omega) ⟨r2, q2, rfl⟩
        have hcL := fun W r3 (R : RowO W r3 0 3 (i64s longBase)) => R.cell (i64s_get (show lad longBase tln < longBase.length from a1))
        have hcLb := fun W r3 (R : RowO W r3 0 3 (i64s longBits)) => R.cell (i64s_get (show lad longBase tln < longBits.length from a1))
        have hcB := fun W r3 (R : RowO W r3 0 3 (i64s backBase)) => R.cell (i64s_get (show lad backBase tkn < backBase.length from b1))
        have hcBb := fun W r3 (R : RowO W r3 0 3 (i64s backBits)) => R.cell (i64s_get (show lad backBase tkn < backBits.length from b1))
        simp only [Nat.zero_add] at hcL hcLb hcB hcBb
        have hl1 := lt_of_getD Hl1
        have hd1 := lt_of_getD Hb1
        have hco1 := code_lt HH.out.fl hl1 Hl1 (getD_le HH.out.l15 _)
        have hco2 := code_lt HH.out.fd hd1 Hb1 (getD_le HH.out.d15 _)
        have h15a := getD_le HH.out.l15 (257 + lad longBase tln)
        have h15b := getD_le HH.out.d15 (lad backBase tkn)
        have HFL2 := Lib.hid hfL
        have HFB2 := Lib.hid hfB
        have HCL := Lib.hid hcL
        have HCLB := Lib.hid hcLb
        have HCB := Lib.hid hcB
        have HCBB := Lib.hid hcBb
        clear hfL hfB hcL hcLb hcB hcBb
        have ff1 := field_fst
        have ff2 := field_snd
        go_upto_region 6 with fail
        generalize hB : wr.heap.size = B at *
        have HB := Lib.hid hB
        clear hB
        generalize wr.alloc (.cells #[.int .i64 tb, .int .i64 (tln : Int), .int .i64 (tkn : Int)] 67) = wa at *
        have d1 : wa.cell? ⟨B, 1, none⟩ = some (.int .i64 (tln : Int)) := (BA.cell 1).trans rfl
        have d2 : wa.cell? ⟨B, 2, none⟩ = some (.int .i64 (tkn : Int)) := (BA.cell 2).trans rfl
        have hBw : B < wa.heap.size := BA.lt
        have FBB : RowKit.Hid (B ∉ [g, r']) := Lib.hid (not_in (by omega) (by omega))
        generalize lad longBase tln = kl at *
        generalize lad backBase tkn = kb at *
        generalize longBase.getD kl 0 = xl at *
        generalize longBits.getD kl 0 = yl at *
        generalize backBase.getD kb 0 = xb at *
        generalize backBits.getD kb 0 = yb at *
        generalize hdl : tln - xl = dl at *
        generalize hdb : tkn - xb = db at *
        have wl : IntKind.i64.wrap ((tln : Int) - (xl : Int)) = (dl : Int) := by rw [IntKind.wrap_i64]; omega
        have wb : IntKind.i64.wrap ((tkn : Int) - (xb : Int)) = (db : Int) := by rw [IntKind.wrap_i64]; omega
        have hdl2 : dl ≤ 60 := by omega
        have hdb2 : db ≤ 250 := by omega
        have HDLL := Lib.hid hdl
        have HDBB := Lib.hid hdb
        clear hdl hdb hwa hwr
        have hwa : RowKit.Hid (IW wa g r' bk) := by
          have := HWA.out
          exact Lib.hid this
        go_cut [12] (fun s12 wx => s12 = .int .i64 (kl : Int) ∧ On wa wx)
        case first =>
          have O0 := (On.refl wa).drew
          go_region_held3 (fun w' => w'.cell? ⟨B, 1, none⟩ = some (.int .i64 (tln : Int)))
            (first | go_keep | exact y1 | exact x1)
            (first
              | (go_at_call 61; refine (longs_calls _).mono ?_; rintro e w5 ⟨r1, q1, r2, q2, rfl, R1, R2, h1, h2, f1, f2, O5⟩; have OO := O0.call O5; have x1 : w5.cell? ⟨B, 1, none⟩ = some (.int .i64 (tln : Int)) := (OO.cell (by simpa using hBw)).trans d1)
              | (go_at_call 62; refine (HFL2.out r1 q1 r2 q2 w5 R1 h1).mono ?_; rintro e w6 ⟨rfl, O6⟩; have y1 : w6.cell? ⟨B, 1, none⟩ = some (.int .i64 (tln : Int)) := ((OO.call O6).cell (by simpa using hBw)).trans d1))
          go_wp2_with fail
          go_meet
          exact ⟨rfl, OO.call O6⟩
        case rest =>
          obtain ⟨rfl, OC⟩ := hcut
          have M5 := MA.trans (mv_on g r' OC)
          have hw5 := hwa.out.on OC
          have hc := code_calls g r' bk lit gl ol nl cl ra nl ca (257 + kl) wc hw5 (by omega) (hl2.kp M5.kp FL.out) (Ra.kp M5.kp FA.out) HNL.out rfl hl1 h15a hco1 (M5.out hl2.lt FL.out) (M5.out Ra.lt FA.out)
          rw [show (((257 + kl : Nat) : Int)) = 257 + (kl : Int) from by omega] at hc
          have HC := Lib.hid hc
          clear hc
          go_wp2_with fail
          refine HC.out.mono ?_
          rintro e w7 ⟨r7, rfl, hw7, M7⟩
          have M8 := M5.trans M7
          have hsz7 := Nat.le_trans OC.size M7.kp.size
          have e1 : w7.cell? ⟨B, 1, none⟩ = some (.int .i64 (tln : Int)) := (M7.kp.cell (Nat.lt_of_lt_of_le hBw OC.size) FBB.out).trans ((OC.cell hBw).trans d1)
          have e2 : w7.cell? ⟨B, 2, none⟩ = some (.int .i64 (tkn : Int)) := (M7.kp.cell (Nat.lt_of_lt_of_le hBw OC.size) FBB.out).trans ((OC.cell hBw).trans d2)
          have hBw7 : B < w7.heap.size := Nat.lt_of_lt_of_le hBw hsz7
          have FBw7 : RowKit.Hid (B ∉ [g, r7]) := Lib.hid (M7.out (Nat.lt_of_lt_of_le hBw OC.size) FBB.out)
          have hel := enc_length lit HH.out.l15 (257 + kl)
          have hbb : (bk ++ enc lit (257 + kl)).length ≤ 300000 := by rw [List.length_append]; omega
          have hp1 := fun W h => put_calls g r7 (bk ++ enc lit (257 + kl)) dl yl W h (by omega) (by omega) (by omega)
          have HW7 := Lib.hid hw7
          have HP1 := Lib.hid hp1
          have hgS := hw7.glt
          have hrS := M8.lt (Nat.lt_of_lt_of_le hr OW.size)
          clear hp1 hw7 hel
          generalize hbk2 : bk ++ enc lit (257 + kl) = bk2 at *
          have HBK2 := Lib.hid hbk2
          clear hbk2
          go_upto_region 8 with fail
          go_cut [12] (fun s12 wx => ∃ r4, s12 = .int .i64 (kl : Int) ∧ RowKit.Hid (IW wx g r4 (bk2 ++ bitsOf dl yl)) ∧ Mv g r7 w7 r4 wx)
          case first =>
            have kz : ((kl : Nat) : Int) < 28 := by omega
            have CE : ∀ W, Kp [g, r7] w7 W → W.cell? ⟨B, 1, none⟩ = some (.int .i64 (tln : Int)) := fun W h => (h.cell hBw7 FBw7.out).trans e1
            refine wp_region_held_drew (S := fun W => Kp [g, r7] w7 W) (by kernel_rfl) (Kp.refl _ _).drew (fun hHeld => ?_)
            refine wpAnyH_take (i := 0) (oi := _) (v := ?_) rfl (by kernel_rfl) (by kernel_rfl) (by kernel_rfl) (fun _ _ _ h => h) (Or.inl ⟨by rfl, ?_⟩) (by assumption) ?_
            rotate_left
            · intro w hSw
              go_simp
              first | done | with_reducible rfl
            try simp only [Act.put, List.setIfInBounds_toArray, List.set_cons_zero, List.set_cons_succ]
            refine wpAnyH_take (i := 1) (oi := _) (v := ?_) rfl (by kernel_rfl) (by kernel_rfl) (by kernel_rfl) (fun _ _ _ h => h) (Or.inl ⟨by rfl, ?_⟩) (by assumption) ?_
            rotate_left
            · intro w hSw
              go_simp
              first | done | with_reducible rfl
            try simp only [Act.put, List.setIfInBounds_toArray, List.set_cons_zero, List.set_cons_succ]
            refine wpAnyH_take (i := 2) (oi := _) (v := ?_) rfl (by kernel_rfl) (by kernel_rfl) (by kernel_rfl) (fun _ _ _ h => h) (Or.inl ⟨by rfl, ?_⟩) (by assumption) ?_
            rotate_left
            · intro w hSw
              go_simp
              first | done | with_reducible rfl
            try simp only [Act.put, List.setIfInBounds_toArray, List.set_cons_zero, List.set_cons_succ]
            refine wpAnyH_take (i := 5) (oi := _) (v := ?_) rfl (by kernel_rfl) (by kernel_rfl) (by kernel_rfl) (fun _ _ _ h => h) (Or.inl ⟨by rfl, ?_⟩) (by assumption) ?_
            rotate_left
            · intro w hSw
              go_simp
              first | done | with_reducible rfl
            try simp only [Act.put, List.setIfInBounds_toArray, List.set_cons_zero, List.set_cons_succ]
            refine wpAnyH_take (i := 11) (oi := _) (v := ?_) rfl (by kernel_rfl) (by kernel_rfl) (by kernel_rfl) (fun _ _ _ h => h) (Or.inl ⟨by rfl, ?_⟩) (by assumption) ?_
            rotate_left
            · intro w hSw
              go_simp
              first | done | with_reducible rfl
            try simp only [Act.put, List.setIfInBounds_toArray, List.set_cons_zero, List.set_cons_succ]
            refine wpAnyH_ready (rs := [3]) (by kernel_rfl) (by simp) ?_
            refine AllReadyH.cons (o := _) rfl (fun K hK => ?_) AllReadyH.nil
            go_simp
            refine (longs_calls _).mono ?_
            rintro e wA ⟨ra1, qa1, ra2, qa2, rfl, RA1, RA2, ha1', ha2', fa1, fa2, OA1⟩
            have KA := hHeld.then (Kp.of [g, r7] OA1)
            have CA : ∀ W, Kp [g, r7] wA W → W.cell? ⟨ra1, kl, none⟩ = some (.int .i64 (xl : Int)) := fun W h => (h.cell RA1.lt (show ra1 ∉ [g, r7] from not_in (by have := hHeld.size; omega) (by have := hHeld.size; omega))).trans (HCL.out wA ra1 RA1)
            refine hK.out _ _ KA (fun hHeld => ?_)
            clear hK K
            try simp only [Act.put, List.setIfInBounds_toArray, List.set_cons_zero, List.set_cons_succ]
            have CE2 : ∀ W, Kp [g, r7] wA W → W.cell? ⟨B, 1, none⟩ = some (.int .i64 (tln : Int)) := fun W h => CE W (KA.then h)
            refine wpAnyH_strong (S' := fun W => Kp [g, r7] wA W) (fun W h => KA.then h) ?_
            have hHeld2 : (fun W => Kp [g, r7] wA W) wA := Kp.refl _ _
            refine wpAnyH_take (i := 4) (oi := _) (v := ?_) rfl (by kernel_rfl) (by kernel_rfl) (by kernel_rfl) (fun _ _ _ h => h) (Or.inl ⟨by rfl, ?_⟩) (by assumption) ?_
            rotate_left
            · intro w hSw
              go_simp
              first | done | with_reducible rfl
            try simp only [Act.put, List.setIfInBounds_toArray, List.set_cons_zero, List.set_cons_succ]
            refine wpAnyH_take (i := 6) (oi := _) (v := ?_) rfl (by kernel_rfl) (by kernel_rfl) (by kernel_rfl) (fun _ _ _ h => h) (Or.inl ⟨by rfl, ?_⟩) (by assumption) ?_
            rotate_left
            · intro w hSw
              go_simp
              first | done | with_reducible rfl
            try simp only [Act.put, List.setIfInBounds_toArray, List.set_cons_zero, List.set_cons_succ]
            refine wpAnyH_take (i := 7) (oi := _) (v := ?_) rfl (by kernel_rfl) (by kernel_rfl) (by kernel_rfl) (fun _ _ _ h => h) (Or.inl ⟨by rfl, ?_⟩) (by assumption) ?_
            rotate_left
            · intro w hSw
              go_simp
              first | done | with_reducible rfl
            try simp only [Act.put, List.setIfInBounds_toArray, List.set_cons_zero, List.set_cons_succ]
            refine wpAnyH_take (i := 8) (oi := _) (v := ?_) rfl (by kernel_rfl) (by kernel_rfl) (by kernel_rfl) (fun _ _ _ h => h) (Or.inl ⟨by rfl, ?_⟩) (by assumption) ?_
            rotate_left
            · intro w hSw
              go_simp
              first | done | with_reducible rfl
            try simp only [Act.put, List.setIfInBounds_toArray, List.set_cons_zero, List.set_cons_succ]
            refine wpAnyH_ready (rs := [9]) (by kernel_rfl) (by simp) ?_
            refine AllReadyH.cons (o := _) rfl (fun K hK => ?_) AllReadyH.nil
            go_simp
            refine (longs_calls _).mono ?_
            rintro e wB ⟨rb1, qb1, rb2, qb2, rfl, RB1, RB2, hb1', hb2', fb1, fb2, OB1⟩
            have KB := Kp.of [g, r7] OB1
            have CB : ∀ W, Kp [g, r7] wB W → W.cell? ⟨rb2, kl, none⟩ = some (.int .i64 (yl : Int)) := fun W h => (h.cell RB2.lt (show rb2 ∉ [g, r7] from not_in (by have := KA.size; omega) (by have := KA.size; omega))).trans (HCLB.out wB rb2 RB2)
            refine hK.out _ _ KB (fun hHeld => ?_)
            clear hK K
            try simp only [Act.put, List.setIfInBounds_toArray, List.set_cons_zero, List.set_cons_succ]
            refine wpAnyH_strong (S' := fun W => Kp [g, r7] wB W) (fun W h => KB.then h) ?_
            have hHeld3 : (fun W => Kp [g, r7] wB W) wB := Kp.refl _ _
            refine wpAnyH_take (i := 10) (oi := _) (v := ?_) rfl (by kernel_rfl) (by kernel_rfl) (by kernel_rfl) (fun _ _ _ h => h) (Or.inl ⟨by rfl, ?_⟩) (by assumption) ?_
            rotate_left
            · intro w hSw
              go_simp
              first | done | with_reducible rfl
            try simp only [Act.put, List.setIfInBounds_toArray, List.set_cons_zero, List.set_cons_succ]
            refine wpAnyH_take (i := 12) (oi := _) (v := ?_) rfl (by kernel_rfl) (by kernel_rfl) (by kernel_rfl) (fun _ _ _ h => h) (Or.inl ⟨by rfl, ?_⟩) (by assumption) ?_
            rotate_left
            · intro w hSw
              go_simp
              first | done | with_reducible rfl
            try simp only [Act.put, List.setIfInBounds_toArray, List.set_cons_zero, List.set_cons_succ]
            refine wpAnyH_take (i := 13) (oi := _) (v := ?_) rfl (by kernel_rfl) (by kernel_rfl) (by kernel_rfl) (fun _ _ _ h => h) (Or.inl ⟨by rfl, ?_⟩) (by assumption) ?_
            rotate_left
            · intro w hSw
              go_simp
              first | done | with_reducible rfl
            try simp only [Act.put, List.setIfInBounds_toArray, List.set_cons_zero, List.set_cons_succ]
            refine wpAnyH_ready (rs := [14]) (by kernel_rfl) (by simp) ?_
            refine AllReadyH.cons (o := _) rfl (fun K hK => ?_) AllReadyH.nil
            go_simp
            refine (HP1.out _ (HW7.out.on ((On.refl w7).drew.call OA1 |>.call OB1))).mono ?_
            rintro e w6 ⟨r6, rfl, hw6, M6⟩
            refine hK.out _ _ M6.kp (fun hHeld => ?_)
            clear hK K
            try simp only [Act.put, List.setIfInBounds_toArray, List.set_cons_zero, List.set_cons_succ]
            refine wpAnyH_done (by kernel_rfl) ?_ _
            have OO2 := ((On.refl w7).drew.call OA1).call OB1
            go_wp2_with fail
            go_meet
            exact ⟨r6, rfl, Lib.hid hw6, (mv_on g r7 OO2).trans M6⟩
          case rest =>
            obtain ⟨r4, rfl, HW4, M4⟩ := hcut
            have M9 := M8.trans M4
            have hsz9 := M4.kp.size
            have g2 : wc.cell? ⟨B, 2, none⟩ = some (.int .i64 (tkn : Int)) := (M4.kp.cell hBw7 FBw7.out).trans e2
            have hBwc : B < wc.heap.size := Nat.lt_of_lt_of_le hBw7 hsz9
            have FBwc : RowKit.Hid (B ∉ [g, r4]) := Lib.hid (M4.out hBw7 FBw7.out)
            obtain ⟨w9, hw9⟩ : ∃ w9 : World, w9 = wc := ⟨_, rfl⟩
            subst hw9
            go_upto_region 9 with fail
            go_cut [12] (fun s12 wx => s12 = .int .i64 (kb : Int) ∧ On w9 wx)
            case first =>
              have O0 := (On.refl w9).drew
              go_region_held3 (fun w' => w'.cell? ⟨B, 2, none⟩ = some (.int .i64 (tkn : Int)))
                (first | go_keep | exact y1 | exact x1)
                (first
                  | (go_at_call 63; refine (backs_calls _).mono ?_; rintro e w5 ⟨r1, q1, r2, q2, rfl, R1, R2, h1, h2, f1, f2, O5⟩; have OO := O0.call O5; have x1 : w5.cell? ⟨B, 2, none⟩ = some (.int .i64 (tkn : Int)) := (OO.cell (by simpa using hBwc)).trans g2)
                  | (go_at_call 62; refine (HFB2.out r1 q1 r2 q2 w5 R1 h1).mono ?_; rintro e w6 ⟨rfl, O6⟩; have y1 : w6.cell? ⟨B, 2, none⟩ = some (.int .i64 (tkn : Int)) := ((OO.call O6).cell (by simpa using hBwc)).trans g2))
              go_wp2_with fail
              go_meet
              exact ⟨rfl, OO.call O6⟩
            case rest =>
              obtain ⟨rfl, OC⟩ := hcut
              have M10 := M9.trans (mv_on g r4 OC)
              have hwX := HW4.out.on OC
              have hbb3 : (bk2 ++ bitsOf dl yl).length ≤ 400000 := by rw [List.length_append, bits_length]; omega
              have hc := code_calls g r4 (bk2 ++ bitsOf dl yl) dist gd od nd cd rb nd cb kb wc hwX (by omega) (hd2.kp M10.kp FD.out) (Rb.kp M10.kp FB.out) HND.out rfl hd1 h15b hco2 (M10.out hd2.lt FD.out) (M10.out Rb.lt FB.out)
              have HC2 := Lib.hid hc
              clear hc
              go_wp2_with fail
              refine HC2.out.mono ?_
              rintro e w11 ⟨r11, rfl, hw11, M11⟩
              have M12 := M10.trans M11
              have i2 : w11.cell? ⟨B, 2, none⟩ = some (.int .i64 (tkn : Int)) := (M11.kp.cell (Nat.lt_of_lt_of_le hBwc OC.size) FBwc.out).trans ((OC.cell hBwc).trans g2)
              have hBw11 : B < w11.heap.size := Nat.lt_of_lt_of_le hBwc (Nat.le_trans OC.size M11.kp.size)
              have FBw11 : RowKit.Hid (B ∉ [g, r11]) := Lib.hid (M11.out (Nat.lt_of_lt_of_le hBwc OC.size) FBwc.out)
              have hel := enc_length dist HH.out.d15 kb
              have hbb4 : (bk2 ++ bitsOf dl yl ++ enc dist kb).length ≤ 500000 := by rw [List.length_append]; omega
              have hp2 := fun W h => put_calls g r11 (bk2 ++ bitsOf dl yl ++ enc dist kb) db yb W h (by omega) (by omega) (by omega)
              have HW11 := Lib.hid hw11
              have HP2 := Lib.hid hp2
              have hgS := hw11.glt
              have hrS := M12.lt (Nat.lt_of_lt_of_le hr OW.size)
              clear hp2 hw11 hel
              generalize hbk3 : bk2 ++ bitsOf dl yl ++ enc dist kb = bk3 at *
              have HBK3 := Lib.hid hbk3
              clear hbk3
              go_upto_region 11 with fail
              have kz : ((kb : Nat) : Int) < 30 := by omega
              have CE : ∀ W, Kp [g, r11] w11 W → W.cell? ⟨B, 2, none⟩ = some (.int .i64 (tkn : Int)) := fun W h => (h.cell hBw11 FBw11.out).trans i2
              refine wp_region_held_drew (S := fun W => Kp [g, r11] w11 W) (by kernel_rfl) (Kp.refl _ _).drew (fun hHeld => ?_)
              refine wpAnyH_take (i := 0) (oi := _) (v := ?_) rfl (by kernel_rfl) (by kernel_rfl) (by kernel_rfl) (fun _ _ _ h => h) (Or.inl ⟨by rfl, ?_⟩) (by assumption) ?_
              rotate_left
              · intro w hSw
                go_simp
                first | done | with_reducible rfl
              try simp only [Act.put, List.setIfInBounds_toArray, List.set_cons_zero, List.set_cons_succ]
              refine wpAnyH_take (i := 1) (oi := _) (v := ?_) rfl (by kernel_rfl) (by kernel_rfl) (by kernel_rfl) (fun _ _ _ h => h) (Or.inl ⟨by rfl, ?_⟩) (by assumption) ?_
              rotate_left
              · intro w hSw
                go_simp
                first | done | with_reducible rfl
              try simp only [Act.put, List.setIfInBounds_toArray, List.set_cons_zero, List.set_cons_succ]
              refine wpAnyH_take (i := 2) (oi := _) (v := ?_) rfl (by kernel_rfl) (by kernel_rfl) (by kernel_rfl) (fun _ _ _ h => h) (Or.inl ⟨by rfl, ?_⟩) (by assumption) ?_
              rotate_left
              · intro w hSw
                go_simp
                first | done | with_reducible rfl
              try simp only [Act.put, List.setIfInBounds_toArray, List.set_cons_zero, List.set_cons_succ]
              refine wpAnyH_take (i := 5) (oi := _) (v := ?_) rfl (by kernel_rfl) (by kernel_rfl) (by kernel_rfl) (fun _ _ _ h => h) (Or.inl ⟨by rfl, ?_⟩) (by assumption) ?_
              rotate_left
              · intro w hSw
                go_simp
                first | done | with_reducible rfl
              try simp only [Act.put, List.setIfInBounds_toArray, List.set_cons_zero, List.set_cons_succ]
              refine wpAnyH_take (i := 11) (oi := _) (v := ?_) rfl (by kernel_rfl) (by kernel_rfl) (by kernel_rfl) (fun _ _ _ h => h) (Or.inl ⟨by rfl, ?_⟩) (by assumption) ?_
              rotate_left
              · intro w hSw
                go_simp
                first | done | with_reducible rfl
              try simp only [Act.put, List.setIfInBounds_toArray, List.set_cons_zero, List.set_cons_succ]
              refine wpAnyH_ready (rs := [3]) (by kernel_rfl) (by simp) ?_
              refine AllReadyH.cons (o := _) rfl (fun K hK => ?_) AllReadyH.nil
              go_simp
              refine (backs_calls _).mono ?_
              rintro e wA ⟨ra1, qa1, ra2, qa2, rfl, RA1, RA2, ha1', ha2', fa1, fa2, OA1⟩
              have KA := hHeld.then (Kp.of [g, r11] OA1)
              have CA : ∀ W, Kp [g, r11] wA W → W.cell? ⟨ra1, kb, none⟩ = some (.int .i64 (xb : Int)) := fun W h => (h.cell RA1.lt (show ra1 ∉ [g, r11] from not_in (by have := hHeld.size; omega) (by have := hHeld.size; omega))).trans (HCB.out wA ra1 RA1)
              refine hK.out _ _ KA (fun hHeld => ?_)
              clear hK K
              try simp only [Act.put, List.setIfInBounds_toArray, List.set_cons_zero, List.set_cons_succ]
              have CE2 : ∀ W, Kp [g, r11] wA W → W.cell? ⟨B, 2, none⟩ = some (.int .i64 (tkn : Int)) := fun W h => CE W (KA.then h)
              refine wpAnyH_strong (S' := fun W => Kp [g, r11] wA W) (fun W h => KA.then h) ?_
              have hHeld2 : (fun W => Kp [g, r11] wA W) wA := Kp.refl _ _
              refine wpAnyH_take (i := 4) (oi := _) (v := ?_) rfl (by kernel_rfl) (by kernel_rfl) (by kernel_rfl) (fun _ _ _ h => h) (Or.inl ⟨by rfl, ?_⟩) (by assumption) ?_
              rotate_left
              · intro w hSw
                go_simp
                first | done | with_reducible rfl
              try simp only [Act.put, List.setIfInBounds_toArray, List.set_cons_zero, List.set_cons_succ]
              refine wpAnyH_take (i := 6) (oi := _) (v := ?_) rfl (by kernel_rfl) (by kernel_rfl) (by kernel_rfl) (fun _ _ _ h => h) (Or.inl ⟨by rfl, ?_⟩) (by assumption) ?_
              rotate_left
              · intro w hSw
                go_simp
                first | done | with_reducible rfl
              try simp only [Act.put, List.setIfInBounds_toArray, List.set_cons_zero, List.set_cons_succ]
              refine wpAnyH_take (i := 7) (oi := _) (v := ?_) rfl (by kernel_rfl) (by kernel_rfl) (by kernel_rfl) (fun _ _ _ h => h) (Or.inl ⟨by rfl, ?_⟩) (by assumption) ?_
              rotate_left
              · intro w hSw
                go_simp
                first | done | with_reducible rfl
              try simp only [Act.put, List.setIfInBounds_toArray, List.set_cons_zero, List.set_cons_succ]
              refine wpAnyH_take (i := 8) (oi := _) (v := ?_) rfl (by kernel_rfl) (by kernel_rfl) (by kernel_rfl) (fun _ _ _ h => h) (Or.inl ⟨by rfl, ?_⟩) (by assumption) ?_
              rotate_left
              · intro w hSw
                go_simp
                first | done | with_reducible rfl
              try simp only [Act.put, List.setIfInBounds_toArray, List.set_cons_zero, List.set_cons_succ]
              refine wpAnyH_ready (rs := [9]) (by kernel_rfl) (by simp) ?_
              refine AllReadyH.cons (o := _) rfl (fun K hK => ?_) AllReadyH.nil
              go_simp
              refine (backs_calls _).mono ?_
              rintro e wB ⟨rb1, qb1, rb2, qb2, rfl, RB1, RB2, hb1', hb2', fb1, fb2, OB1⟩
              have KB := Kp.of [g, r11] OB1
              have CB : ∀ W, Kp [g, r11] wB W → W.cell? ⟨rb2, kb, none⟩ = some (.int .i64 (yb : Int)) := fun W h => (h.cell RB2.lt (show rb2 ∉ [g, r11] from not_in (by have := KA.size; omega) (by have := KA.size; omega))).trans (HCBB.out wB rb2 RB2)
              refine hK.out _ _ KB (fun hHeld => ?_)
              clear hK K
              try simp only [Act.put, List.setIfInBounds_toArray, List.set_cons_zero, List.set_cons_succ]
              refine wpAnyH_strong (S' := fun W => Kp [g, r11] wB W) (fun W h => KB.then h) ?_
              have hHeld3 : (fun W => Kp [g, r11] wB W) wB := Kp.refl _ _
              refine wpAnyH_take (i := 10) (oi := _) (v := ?_) rfl (by kernel_rfl) (by kernel_rfl) (by kernel_rfl) (fun _ _ _ h => h) (Or.inl ⟨by rfl, ?_⟩) (by assumption) ?_
              rotate_left
              · intro w hSw
                go_simp
                first | done | with_reducible rfl
              try simp only [Act.put, List.setIfInBounds_toArray, List.set_cons_zero, List.set_cons_succ]
              refine wpAnyH_take (i := 12) (oi := _) (v := ?_) rfl (by kernel_rfl) (by kernel_rfl) (by kernel_rfl) (fun _ _ _ h => h) (Or.inl ⟨by rfl, ?_⟩) (by assumption) ?_
              rotate_left
              · intro w hSw
                go_simp
                first | done | with_reducible rfl
              try simp only [Act.put, List.setIfInBounds_toArray, List.set_cons_zero, List.set_cons_succ]
              refine wpAnyH_take (i := 13) (oi := _) (v := ?_) rfl (by kernel_rfl) (by kernel_rfl) (by kernel_rfl) (fun _ _ _ h => h) (Or.inl ⟨by rfl, ?_⟩) (by assumption) ?_
              rotate_left
              · intro w hSw
                go_simp
                first | done | with_reducible rfl
              try simp only [Act.put, List.setIfInBounds_toArray, List.set_cons_zero, List.set_cons_succ]
              refine wpAnyH_ready (rs := [14]) (by kernel_rfl) (by simp) ?_
              refine AllReadyH.cons (o := _) rfl (fun K hK => ?_) AllReadyH.nil
              go_simp
              refine (HP2.out _ (HW11.out.on ((On.refl w11).drew.call OA1 |>.call OB1))).mono ?_
              rintro e w6 ⟨r6, rfl, hw6, M6⟩
              refine hK.out _ _ M6.kp (fun hHeld => ?_)
              clear hK K
              try simp only [Act.put, List.setIfInBounds_toArray, List.set_cons_zero, List.set_cons_succ]
              refine wpAnyH_done (by kernel_rfl) ?_ _
              have OO2 := ((On.refl w11).drew.call OA1).call OB1
              go_wp2_with fail
              refine ⟨⟨k + 1, r6, by go_num, by omega, ?_, M12.trans ((mv_on g r11 OO2).trans M6)⟩, by simp [intOf]; omega⟩
              rw [HST.out, HEN.out, ← List.append_assoc, ← List.append_assoc, ← List.append_assoc, HBK2.out, HBK3.out]
              exact hw6
    · obtain rfl : k = n := by omega
      have hfl := flat_le HF.out HH.out.l15 HH.out.d15 k
      have htk : l.take k = l := List.take_of_length_le (by rw [HN.out]; exact Nat.le_refl _)
      rw [htk] at hwr hfl
      have hbl : (bs ++ l.flatMap (encTok lit dist)).length ≤ 200000 := by rw [List.length_append]; omega
      have h256 := lt_of_getD HH.out.last
      have hco := code_lt HH.out.fl h256 HH.out.last (getD_le HH.out.l15 _)
      have hc := code_calls g r' _ lit gl ol nl cl ra nl ca 256 wr hwr (by omega) (hl2.kp M.kp FL.out) (Ra.kp M.kp FA.out) HNL.out rfl h256 (getD_le HH.out.l15 _) hco (M.out hl2.lt FL.out) (M.out Ra.lt FA.out)
      have HC := Lib.hid hc
      have HW5 := Lib.hid hwr
      clear hc htk hwr
      go_wp2_with fail
      refine HC.out.mono ?_
      rintro e w7 ⟨r7, rfl, hw7, M7⟩
      go_wp2_with fail
      go_end0
      refine ⟨r7, rfl, ?_, (mv_on g r OW).trans (M.trans M7)⟩
      unfold encToks
      rw [← List.append_assoc]
      exact hw7
end Go.Proofs.YtncidljdfipigaaDoor.Wi

/- How often symbols come, step by step. Nothing of the program stands here. -/
namespace Go.Proofs.YtncidljdfipigaaDoor.Wi
open Go.Proofs.YtncidljdfipigaaDoor.Bt Go.Proofs.YtncidljdfipigaaDoor.Cd Go.Proofs.YtncidljdfipigaaDoor.De Go.Proofs.YtncidljdfipigaaDoor.En Go.Proofs.YtncidljdfipigaaDoor.Lz Go.Proofs.YtncidljdfipigaaDoor.Hf
set_option linter.unusedVariables false
/-- The first k tokens are counted. -/
def cntLTo (l : List Tok) (k : Nat) : List Nat := bump ((List.replicate 286 0).set 256 1) (symsL (l.take k))
def cntBTo (l : List Tok) (k : Nat) : List Nat := bump (List.replicate 30 0) (symsB (l.take k))
def symL (t : Tok) : Nat := if t.long = 0 then t.byte.toNat else 257 + lad longBase t.long.toNat
theorem cntLTo_length (l : List Tok) (k : Nat) : (cntLTo l k).length = 286 := by unfold cntLTo; rw [bump_length, List.length_set, List.length_replicate]
theorem cntBTo_length (l : List Tok) (k : Nat) : (cntBTo l k).length = 30 := by unfold cntBTo; rw [bump_length, List.length_replicate]
theorem cntLTo_zero (l : List Tok) : cntLTo l 0 = (List.replicate 286 0).set 256 1 := by unfold cntLTo; rw [List.take_zero]; rfl
theorem cntBTo_zero (l : List Tok) : cntBTo l 0 = List.replicate 30 0 := by unfold cntBTo; rw [List.take_zero]; rfl
theorem cntLTo_succ {l : List Tok} {k : Nat} (h : k < l.length) : cntLTo l (k + 1) = (cntLTo l k).set (symL l[k]) ((cntLTo l k).getD (symL l[k]) 0 + 1) := by
  unfold cntLTo
  rw [List.take_succ_eq_append_getElem h]
  unfold symsL
  rw [List.map_append, bump_append]
  rfl
theorem cntBTo_long {l : List Tok} {k : Nat} (h : k < l.length) (h0 : l[k].long ≠ 0) : cntBTo l (k + 1) = (cntBTo l k).set (lad backBase l[k].back.toNat) ((cntBTo l k).getD (lad backBase l[k].back.toNat) 0 + 1) := by
  unfold cntBTo
  rw [List.take_succ_eq_append_getElem h]
  unfold symsB
  rw [List.filter_append, List.map_append, bump_append, List.filter_cons, if_pos (by simpa using h0)]
  rfl
theorem cntBTo_byte {l : List Tok} {k : Nat} (h : k < l.length) (h0 : l[k].long = 0) : cntBTo l (k + 1) = cntBTo l k := by
  unfold cntBTo
  rw [List.take_succ_eq_append_getElem h]
  unfold symsB
  rw [List.filter_append, List.map_append, bump_append, List.filter_cons, if_neg (by simpa using h0)]
  rfl
theorem bump_le {base S : List Nat} {m : Nat} (hb : ∀ x ∈ base, x ≤ m) : ∀ x ∈ bump base S, x ≤ m + S.length := by
  refine getD_le' fun i hi => ?_
  rw [bump_length] at hi
  rw [bump_get S base i hi]
  have h1 := List.count_le_length (a := i) (l := S)
  have h2 := Cd.getD_le hb i
  omega
theorem base_le : ∀ x ∈ (List.replicate 286 0).set 256 1, x ≤ 1 := by
  intro x hx
  rcases List.mem_or_eq_of_mem_set hx with h | h
  · have := List.eq_of_mem_replicate h; omega
  · omega
theorem cntLTo_le (l : List Tok) (k : Nat) : ∀ x ∈ cntLTo l k, x ≤ 1 + k := by
  intro x hx
  have := bump_le base_le x hx
  have h2 : (symsL (l.take k)).length ≤ k := by unfold symsL; rw [List.length_map, List.length_take]; omega
  omega
theorem cntBTo_le (l : List Tok) (k : Nat) : ∀ x ∈ cntBTo l k, x ≤ k := by
  intro x hx
  have := bump_le (base := List.replicate 30 0) (m := 0) (fun x hx => by have := List.eq_of_mem_replicate hx; omega) x hx
  have h2 : (symsB (l.take k)).length ≤ k := by
    unfold symsB
    rw [List.length_map]
    have := List.length_filter_le (fun t : Tok => decide (t.long ≠ 0)) (l.take k)
    rw [List.length_take] at this; omega
  omega
theorem cntLTo_all (l : List Tok) : cntLTo l l.length = cntL l := by unfold cntLTo cntL; rw [List.take_length]
theorem symL_lt {lit dist : List Nat} {t : Tok} (F : Fine lit dist t) : symL t < 286 := by
  unfold symL
  by_cases h : t.long = 0
  · rw [if_pos h]; have := F.byte h; omega
  · rw [if_neg h]
    have := F.long h
    have := (lad_long t.long.toNat (by omega) (by omega)).1
    omega
theorem symB_lt {lit dist : List Nat} {t : Tok} (F : Fine lit dist t) (h : t.long ≠ 0) : lad backBase t.back.toNat < 30 := by
  have := F.long h
  exact (lad_back t.back.toNat (by omega) (by omega)).1
theorem used_pos {l : List Nat} {k : Nat} (h : 1 ≤ l.getD k 0) : used l ≠ 0 := by
  unfold used
  intro e
  have := List.eq_nil_of_length_eq_zero e
  have hk := lt_of_getD h
  have hm : l[k] ∈ l.filter fun l => decide (0 < l) := by
    rw [List.mem_filter]
    refine ⟨List.getElem_mem hk, ?_⟩
    rw [List.getD_eq_getElem?_getD, List.getElem?_eq_getElem hk] at h
    have h : 1 ≤ l[k] := h
    simp; omega
  rw [this] at hm
  cases hm
theorem cntB_is {l : List Tok} (F : ∀ t ∈ l, Fine [] [] t) : cntB l = if used (cntBTo l l.length) = 0 then (cntBTo l l.length).set 0 1 else cntBTo l l.length := by
  have e : cntBTo l l.length = bump (List.replicate 30 0) (symsB l) := by unfold cntBTo; rw [List.take_length]
  rw [e]
  unfold cntB
  by_cases h : symsB l = []
  · rw [if_pos h, h]
    rw [show bump (List.replicate 30 0) [] = List.replicate 30 0 from rfl, used_zeros, if_pos rfl]
  · rw [if_neg h]
    obtain ⟨s, r, hs⟩ := List.exists_cons_of_ne_nil h
    have hm : s ∈ symsB l := by rw [hs]; simp
    have hlt : s < 30 := by
      unfold symsB at hm
      obtain ⟨t, ht, rfl⟩ := List.mem_map.1 hm
      obtain ⟨h1, h2⟩ := List.mem_filter.1 ht
      exact symB_lt (F t h1) (by simpa using h2)
    rw [if_neg (used_pos (bump_pos hm (by simpa using hlt)))]
/-- Sums: numbers counted. -/
theorem cntM_le (all : List Nat) (k : Nat) : ∀ x ∈ bump (List.replicate 19 0) (all.take k), x ≤ k := by
  intro x hx
  have := bump_le (base := List.replicate 19 0) (m := 0) (fun x hx => by have := List.eq_of_mem_replicate hx; omega) x hx
  rw [List.length_take] at this; omega
theorem cntM_succ {all : List Nat} {k : Nat} (h : k < all.length) : bump (List.replicate 19 0) (all.take (k + 1)) = (bump (List.replicate 19 0) (all.take k)).set (all.getD k 0) ((bump (List.replicate 19 0) (all.take k)).getD (all.getD k 0) 0 + 1) := by
  rw [List.take_succ_eq_append_getElem h, bump_append, List.getD_eq_getElem?_getD (i := k), List.getElem?_eq_getElem h]
  rfl
theorem flat_succ {α : Type} {l : List Nat} (f : Nat → List α) {k : Nat} (h : k < l.length) : (l.take (k + 1)).flatMap f = (l.take k).flatMap f ++ f (l.getD k 0) := by
  rw [List.take_succ_eq_append_getElem h, List.flatMap_append, List.getD_eq_getElem?_getD, List.getElem?_eq_getElem h]
  simp
theorem flat_len {α : Type} (l : List Nat) (f : Nat → List α) {m : Nat} (h : ∀ x, (f x).length ≤ m) : (l.flatMap f).length ≤ l.length * m := by
  induction l with
  | nil => simp
  | cons x l ih =>
    rw [List.flatMap_cons, List.length_append, List.length_cons, Nat.add_mul]
    have := h x
    omega
end Go.Proofs.YtncidljdfipigaaDoor.Wi

/- Rows of trees (how often, the least symbol, the symbols) in memory; the greatest of numbers; the least of trees. Conditions: rows that are only read. -/
namespace Go.Proofs.YtncidljdfipigaaDoor.Wi
open Go.RowKit Go.Proofs.YtncidljdfipigaaDoor.Mem Go.Proofs.YtncidljdfipigaaDoor.Hf
set_option linter.unusedVariables false
set_option linter.unusedSimpArgs false
/-- A tree, and where its symbols lie: a block, a capacity. -/
abbrev Tr := It × Nat × Nat
def tcell (x : Tr) : List Value := [.int .i64 (x.1.c : Int), .int .i64 (x.1.f : Int), .slice (some ⟨x.2.1, 0, none⟩) x.1.s.length x.2.2]
def tcells (X : List Tr) : List Value := X.flatMap tcell
theorem tcells_length (X : List Tr) : (tcells X).length = 3 * X.length := by
  induction X with
  | nil => rfl
  | cons x X ih =>
    have e : tcells (x :: X) = tcell x ++ tcells X := rfl
    rw [e, List.length_append, ih, List.length_cons]
    show 3 + _ = _
    omega
theorem tcells_append (X Y : List Tr) : tcells (X ++ Y) = tcells X ++ tcells Y := by unfold tcells; rw [List.flatMap_append]
theorem tcells_get : ∀ (X : List Tr) {i : Nat} (h : i < X.length), (tcells X)[3 * i]? = some (.int .i64 (X[i].1.c : Int)) ∧ (tcells X)[3 * i + 1]? = some (.int .i64 (X[i].1.f : Int)) ∧ (tcells X)[3 * i + 2]? = some (.slice (some ⟨X[i].2.1, 0, none⟩) X[i].1.s.length X[i].2.2)
  | x :: X, 0, _ => ⟨rfl, rfl, rfl⟩
  | x :: X, i + 1, h => by
    have e : tcells (x :: X) = tcell x ++ tcells X := rfl
    have h3 : (tcell x).length = 3 := rfl
    obtain ⟨a, b, c⟩ := tcells_get X (i := i) (by simpa using h)
    rw [e]
    refine ⟨?_, ?_, ?_⟩
    · rw [List.getElem?_append_right (by rw [h3]; omega), h3, show 3 * (i + 1) - 3 = 3 * i from by omega]; exact a
    · rw [List.getElem?_append_right (by rw [h3]; omega), h3, show 3 * (i + 1) + 1 - 3 = 3 * i + 1 from by omega]; exact b
    · rw [List.getElem?_append_right (by rw [h3]; omega), h3, show 3 * (i + 1) + 2 - 3 = 3 * i + 2 from by omega]; exact c
theorem tcells_take : ∀ (X : List Tr) (k : Nat), tcells (X.take k) = (tcells X).take (3 * k)
  | _, 0 => by simp [tcells]
  | [], k + 1 => by simp [tcells]
  | x :: X, k + 1 => by
    have e : tcells (x :: X) = tcell x ++ tcells X := rfl
    have e2 : tcells ((x :: X).take (k + 1)) = tcell x ++ tcells (X.take k) := rfl
    have h3 : (tcell x).length = 3 := rfl
    rw [e, e2, tcells_take X k, List.take_append, h3, show 3 * (k + 1) - 3 = 3 * k from by omega, List.take_of_length_le (l := tcell x) (by rw [h3]; omega)]
theorem tcells_drop : ∀ (X : List Tr) (k : Nat), tcells (X.drop k) = (tcells X).drop (3 * k)
  | _, 0 => by simp
  | [], k + 1 => by simp [tcells]
  | x :: X, k + 1 => by
    have e : tcells (x :: X) = tcell x ++ tcells X := rfl
    have h3 : (tcell x).length = 3 := rfl
    rw [List.drop_succ_cons, tcells_drop X k, e, List.drop_append, h3, show 3 * (k + 1) - 3 = 3 * k from by omega, show List.drop (3 * (k + 1)) (tcell x) = [] from List.drop_eq_nil_of_le (by rw [h3]; omega), List.nil_append]
theorem tcells_erase (X : List Tr) (k : Nat) : tcells (X.eraseIdx k) = (tcells X).take (3 * k) ++ (tcells X).drop (3 * (k + 1)) := by
  rw [List.eraseIdx_eq_take_drop_succ, tcells_append, tcells_take, tcells_drop]
set_option maxRecDepth 100000 in
theorem smost_calls (lens : List Nat) (g o n cap : Nat) (w : World) (hl : RowO w g o 3 (i64s lens)) (hn : lens.length = n) (hn2 : n ≤ 1000) (hnc : n ≤ cap) (hx : ∀ x ∈ lens, x ≤ 1000000000) :
    Calls Tryd.prog 127 #[.slice (some ⟨g, o, none⟩) n cap] w fun e w' => e = .returned (.int .i64 (top lens : Nat)) ∧ On w w' := by
  have HN := Lib.hid hn
  clear hn
  go_enter Tryd.func127, Tryd.ntmps127
  go_wp2_with fail
  go_loopw [3, 4] (fun a x wr => ∃ (k m : Nat), x = .int .i64 (k : Int) ∧ k ≤ n ∧ a = .int .i64 (m : Int) ∧ RowKit.Hid (m = topTo lens k) ∧ On w wr) (fun _ x _ => n - (intOf x).toNat)
  case atStart => exact ⟨0, 0, rfl, by omega, rfl, Lib.hid rfl, On.refl _⟩
  case round =>
    obtain ⟨k, m, rfl, hk, rfl, HM, O⟩ := hrel
    by_cases hlt : k < n
    · have hkl : k < lens.length := by rw [HN.out]; exact hlt
      have c0 := (hl.on O).cell (i64s_get hkl)
      have hmem : lens.getD k 0 ∈ lens := by rw [List.getD_eq_getElem?_getD, List.getElem?_eq_getElem hkl]; exact List.getElem_mem _
      have hx1 := hx _ hmem
      have HT := Lib.hid (show topTo lens (k + 1) = max m (lens.getD k 0) from by rw [topTo, HM.out])
      clear hmem
      generalize lens.getD k 0 = x at *
      have hk2 : (k : Int) < n := by omega
      by_cases h0 : m < x
      · have h0' : (m : Int) < x := by omega
        go_wp2_with fail
        go_roundw
        case rel => exact ⟨k + 1, x, by go_num, by omega, rfl, Lib.hid (by rw [HT.out]; omega), O⟩
        case measure => simp [intOf]; omega
      · have h0' : ¬ (m : Int) < x := by omega
        go_wp2_with fail
        go_roundw
        case rel => exact ⟨k + 1, m, by go_num, by omega, rfl, Lib.hid (by rw [HT.out]; omega), O⟩
        case measure => simp [intOf]; omega
    · obtain rfl : k = n := by omega
      go_wp2_with fail
      go_ret
      exact ⟨by unfold top; rw [HN.out, ← HM.out]; rfl, O⟩
set_option maxRecDepth 100000 in
set_option maxHeartbeats 1000000 in
theorem sleast_calls (X : List Tr) (g n cap : Nat) (w : World) (hX : Row w g 133 (tcells X)) (hn : X.length = n) (hn1 : 1 ≤ n) (hn2 : n ≤ 1000) (hnc : n ≤ cap) (hc : ∀ x ∈ X, x.1.c ≤ 100000000 ∧ x.1.f ≤ 1000) :
    Calls Tryd.prog 147 #[.slice (some ⟨g, 0, none⟩) n cap] w fun e w' => e = .returned (.int .i64 (least (X.map (·.1)) : Nat)) ∧ On w w' := by
  have HN := Lib.hid hn
  clear hn
  have hget : ∀ i, i < n → ∃ c f, c ≤ 100000000 ∧ f ≤ 1000 ∧ ((X.map (·.1)).getD i dflt).c = c ∧ ((X.map (·.1)).getD i dflt).f = f ∧ (∀ w', On w w' → w'.cell? ⟨g, i * 3, none⟩ = some (.int .i64 (c : Int)) ∧ w'.cell? ⟨g, i * 3 + 1, none⟩ = some (.int .i64 (f : Int))) := by
    intro i hi
    have hiX : i < X.length := by rw [HN.out]; exact hi
    obtain ⟨a, b, _⟩ := tcells_get X hiX
    have hm := hc X[i] (List.getElem_mem hiX)
    have e : (X.map (·.1)).getD i dflt = X[i].1 := by rw [List.getD_eq_getElem?_getD, List.getElem?_map, List.getElem?_eq_getElem hiX]; rfl
    refine ⟨X[i].1.c, X[i].1.f, hm.1, hm.2, by rw [e], by rw [e], fun w' O => ⟨?_, ?_⟩⟩
    · rw [Nat.mul_comm i 3]; exact (hX.on O).cell a
    · rw [Nat.mul_comm i 3]; exact (hX.on O).cell b
  have HGET := Lib.hid hget
  clear hget hc hX
  obtain ⟨L, hL⟩ : ∃ L, X.map (·.1) = L := ⟨_, rfl⟩
  have hLn : L.length = n := by rw [← hL, List.length_map, HN.out]
  rw [hL] at HGET ⊢
  have HLN := Lib.hid hLn
  clear hL hLn HN
  go_enter Tryd.func147, Tryd.ntmps147
  go_wp2_with fail
  go_loopw [3, 4] (fun a x wr => ∃ (k m : Nat), x = .int .i64 (k : Int) ∧ 1 ≤ k ∧ k ≤ n ∧ a = .int .i64 (m : Int) ∧ m < n ∧ RowKit.Hid (m = leastTo L (k - 1)) ∧ On w wr) (fun _ x _ => n - (intOf x).toNat)
  case atStart => exact ⟨1, 0, rfl, by omega, hn1, rfl, by omega, Lib.hid rfl, On.refl _⟩
  case round =>
    obtain ⟨k, m, rfl, hk1, hk, rfl, hm, HM, O⟩ := hrel
    by_cases hlt : k < n
    · obtain ⟨ck, fk, hck, hfk, eck, efk, cellk⟩ := HGET.out k hlt
      obtain ⟨cm, fm, hcm, hfm, ecm, efm, cellm⟩ := HGET.out m hm
      have HT := Lib.hid (show leastTo L k = if less (L.getD k dflt) (L.getD m dflt) then k else m from by
        obtain ⟨j, rfl⟩ : ∃ j, k = j + 1 := ⟨k - 1, by omega⟩
        rw [leastTo, HM.out]; rfl)
      have HLS := Lib.hid (show less (L.getD k dflt) (L.getD m dflt) = decide (ck < cm ∨ ck = cm ∧ fk < fm) from by unfold less; rw [eck, efk, ecm, efm])
      clear eck efk ecm efm
      have CK := fun nq => cellk (wr.drewN nq) (O.drewN nq)
      have CM := fun nq => cellm (wr.drewN nq) (O.drewN nq)
      obtain ⟨k0, k1⟩ := cellk wr O
      obtain ⟨m0, m1⟩ := cellm wr O
      clear CK CM cellk cellm
      have hk2 : (k : Int) < n := by omega
      have hm2 : (m : Int) < n := by omega
      by_cases h1 : ck < cm
      · have h1' : decide ((ck : Int) < (cm : Int)) = true := by simp; omega
        have h1'' : (ck : Int) < (cm : Int) := by omega
        go_wp2_with fail
        go_quiet (fail)
        go_wp2_with fail
        go_roundw
        case rel => exact ⟨k + 1, k, by go_num, by omega, by omega, rfl, by omega, Lib.hid (by rw [show k + 1 - 1 = k from by omega, HT.out, HLS.out, if_pos (by simp; omega)]), O.drewN _⟩
        case measure => simp [intOf]; omega
      · have h1' : decide ((ck : Int) < (cm : Int)) = false := by simp; omega
        have h1n : decide (ck < cm) = false := by simp; omega
        by_cases h2 : ck = cm
        · subst h2
          have h2' : ((ck : Int) == (ck : Int)) = true := by simp
          by_cases h3 : fk < fm
          · have h3' : decide ((fk : Int) < (fm : Int)) = true := by simp; omega
            have h3'' : (fk : Int) < (fm : Int) := by omega
            go_wp2_with fail
            go_quiet (fail)
            go_wp2_with fail
            go_roundw
            case rel => exact ⟨k + 1, k, by go_num, by omega, by omega, rfl, by omega, Lib.hid (by rw [show k + 1 - 1 = k from by omega, HT.out, HLS.out, if_pos (by simp; omega)]), O.drewN _⟩
            case measure => simp [intOf]; omega
          · have h3' : decide ((fk : Int) < (fm : Int)) = false := by simp; omega
            have h3n : decide (fk < fm) = false := by simp; omega
            go_wp2_with fail
            go_quiet (fail)
            go_wp2_with fail
            go_roundw
            case rel => exact ⟨k + 1, m, by go_num, by omega, by omega, rfl, by omega, Lib.hid (by rw [show k + 1 - 1 = k from by omega, HT.out, HLS.out, if_neg (by simp; omega)]), O.drewN _⟩
            case measure => simp [intOf]; omega
        · have h2' : ((ck : Int) == (cm : Int)) = false := by simp; omega
          go_wp2_with fail
          go_quiet (fail)
          go_wp2_with fail
          go_roundw
          case rel => exact ⟨k + 1, m, by go_num, by omega, by omega, rfl, by omega, Lib.hid (by rw [show k + 1 - 1 = k from by omega, HT.out, HLS.out, if_neg (by simp; omega)]), O.drewN _⟩
          case measure => simp [intOf]; omega
    · obtain rfl : k = n := by omega
      go_wp2_with fail
      go_ret
      exact ⟨by unfold least; rw [HLN.out, ← HM.out]; rfl, O⟩
end Go.Proofs.YtncidljdfipigaaDoor.Wi

