/- The specification's reader takes tokens up to the end. Conditions: a reader, bytes, lengths. -/
import Derived.Test.YtncidljdfipigaaDoorSg
import Derived.Test.YtncidljdfipigaaDoorWCodes
namespace Go.Proofs.YtncidljdfipigaaDoor.Wi
open Go.RowKit Go.Proofs.YtncidljdfipigaaDoor.Mem Go.Proofs.YtncidljdfipigaaDoor.Bt Go.Proofs.YtncidljdfipigaaDoor.Cd Go.Proofs.YtncidljdfipigaaDoor.De
set_option linter.unusedVariables false
set_option linter.unusedSimpArgs false
theorem AnsO.bind {d : Dec (List Nat)} {k : List Nat → Dec (List Nat)} {s : ByteArray} {p p1 p2 : Nat} {b b1 b2 : Bool} {l1 y : List Nat} (h : AnsO d s p b l1 p1 b1) (h2 : AnsO (if l1.length ≤ 300 then k l1 else De.bad) s p1 b1 y p2 b2) : AnsO (De.next d k) s p b y p2 b2 := by
  by_cases hl : l1.length ≤ 300
  · rw [if_pos hl] at h2
    refine ⟨fun e => ?_, fun e => ?_⟩
    · cases hb1 : b1 with
      | true => exact (h.bad hb1).imp id (fun a => next_none a)
      | false =>
        obtain ⟨a1, a2, _⟩ := h.good hb1
        rcases h2.bad e with c | c
        · rw [hb1] at c; cases c
        · exact .inr (by rw [next_some (a2 hl)]; exact c)
    · obtain ⟨c1, c2, c3⟩ := h2.good e
      obtain ⟨a1, a2, _⟩ := h.good c1
      exact ⟨a1, fun h3 => by rw [next_some (a2 hl)]; exact c2 h3, fun h3 => by rw [next_some (a2 hl)]; exact c3 h3⟩
  · rw [if_neg hl] at h2
    refine ⟨fun e => ?_, fun e => ?_⟩
    · cases hb1 : b1 with
      | true => exact (h.bad hb1).imp id (fun a => next_none a)
      | false => exact .inr (next_none ((h.good hb1).2.2 (by omega)))
    · obtain ⟨c1, c2, c3⟩ := h2.good e
      obtain ⟨a1, _, a3⟩ := h.good c1
      exact ⟨a1, fun h3 => (by have := c2 h3; cases this), fun _ => next_none (a3 (by omega))⟩
/-- How far the loop over tokens still may go. -/
def tokFar (g : Nat) (o : Value) (w : World) : Nat := (match o with | .slice _ n _ => 2 * (1000 - n) | _ => 0) + (match w.cell? ⟨g, 2, none⟩ with | some (.bool false) => 1 | _ => 0)
theorem tokFar_lt {g n n' q q' : Nat} {s : ByteArray} {a a' : Option Addr} {c c' : Nat} {b' : Bool} {w w' : World} (h : SR w g s q false) (h' : SR w' g s q' b') (hn : n ≤ n') (hb : b' = false → n < n') (hle : n' ≤ 900) : tokFar g (.slice a' n' c') w' < tokFar g (.slice a n c) w := by
  unfold tokFar
  rw [(h.out.cell 2).trans rfl, (h'.out.cell 2).trans rfl]
  cases b' with
  | false =>
    have := hb rfl
    show 2 * (1000 - n') + 1 < 2 * (1000 - n) + 1
    omega
  | true =>
    show 2 * (1000 - n') + 0 < 2 * (1000 - n) + 1
    omega
set_option maxRecDepth 100000 in
set_option maxHeartbeats 2000000 in
theorem srdtoks_calls (g r cap n gl ol nl cl gd od nd cd : Nat) (s : ByteArray) (p : Nat) (b : Bool) (l lit dist : List Nat) (w : World) (hw : SR w g s p b) (hb : By w r cap l) (hn : l.length = n) (hgr : g ≠ r)
    (hl : RowO w gl ol 3 (i64s lit)) (hd : RowO w gd od 3 (i64s dist)) (hnl : lit.length = nl) (hnd : dist.length = nd) (hnlc : nl ≤ cl) (hndc : nd ≤ cd) (hlen : nl ≤ 1000) (hlen2 : nd ≤ 1000) (fl : gl ≠ g ∧ gl ≠ r) (fd : gd ≠ g ∧ gd ≠ r) :
    Calls Tryd.prog 136 #[.pointer (some ⟨g, 0, none⟩), .slice (some ⟨r, 0, none⟩) n cap, .slice (some ⟨gl, ol, none⟩) nl cl, .slice (some ⟨gd, od, none⟩) nd cd] w fun e w' => SOut (packed lit dist 302 l) s p b l g r w e w' := by
  have HN := Lib.hid hn
  have HNL := Lib.hid hnl
  have HND := Lib.hid hnd
  have HFL := Lib.hid fl
  have HFD := Lib.hid fd
  have hgl := hw.out.lt
  have hrl := hb.lt
  have hll := hl.lt
  have hdl := hd.lt
  clear hn hnl hnd fl fd
  go_enter Tryd.func136, Tryd.ntmps136
  go_wp2_with fail
  refine (scodes_calls lit gl ol nl cl w hl HNL.out (by omega) hnlc).mono ?_
  rintro e w1 ⟨ra, ca, rfl, Na, ha1, ha2, O1⟩
  have hcl : (codes lit).length = nl := by rw [codes_length]; exact HNL.out
  rw [hcl] at Na ⊢
  go_wp2_with fail
  refine (scodes_calls dist gd od nd cd w1 (hd.on O1) HND.out (by omega) hndc).mono ?_
  rintro e w2 ⟨rb, cb, rfl, Nb, hb1, hb2, O2⟩
  have hcd : (codes dist).length = nd := by rw [codes_length]; exact HND.out
  rw [hcd] at Nb ⊢
  have O12 := O1.call O2
  have Na2 := Na.on O2
  have hca : nl ≤ ca := Na.row.2.2.1
  have hcb : nd ≤ cb := Nb.row.2.2.1
  have Ra := Na2.row.1.toO
  have Rb := Nb.row.1.toO
  have hz1 := O1.size
  have hz2 := O2.size
  have hl2 := hl.on O12
  have hd2 := hd.on O12
  have hw2 := hw.on O12
  have hb2' := hb.on O12
  have fa : RowKit.Hid (ra ≠ g ∧ ra ≠ r) := Lib.hid ⟨by omega, by omega⟩
  have fb : RowKit.Hid (rb ≠ g ∧ rb ≠ r) := Lib.hid ⟨by omega, by omega⟩
  clear Na Nb Na2 hcl hcd hb hw hl hd ha1 ha2 hb1 hb2
  have hz0 := O12.size
  go_wp2_with fail
  go_loopw [1] (fun o wr => ∃ (q : Nat) (bb : Bool) (r' cap' : Nat) (l' : List Nat), o = .slice (some ⟨r', 0, none⟩) l'.length cap' ∧ SR wr g s q bb ∧ By wr r' cap' l' ∧ Kp [g, r] w2 wr ∧ (r' = r ∨ w2.heap.size ≤ r') ∧ g ≠ r' ∧ RowKit.Hid (l.length ≤ 300 → Still lit dist l s p b l' q bb) ∧ RowKit.Hid (l.length ≤ l'.length ∧ l'.length ≤ l.length + 360 ∧ (l.length < l'.length → l'.length ≤ 360))) (fun o wr => tokFar g o wr)
  case atStart => exact ⟨p, b, r, cap, l, by rw [HN.out], hw2, hb2', Kp.refl _ _, .inl rfl, hgr, Lib.hid (fun h => Still.start h), Lib.hid ⟨Nat.le_refl _, by omega, fun h => by omega⟩⟩
  case round =>
    obtain ⟨q, bb, r', cap', l', rfl, hr, hB, K, hr', hgr', HST, HLE⟩ := hrel
    have c2 : wr.cell? ⟨g, 2, none⟩ = some (.bool bb) := (hr.out.cell 2).trans rfl
    have fr : ∀ i, wr.frozen? ⟨g, i, none⟩ = false := hr.out.frozen
    have KW := (Kp.of [g, r] O12).then K
    have hrw : r' = r ∨ w.heap.size ≤ r' := by omega
    have BX : ∀ u : Value, By (wr.setCell ⟨g, 2, none⟩ u) r' cap' l' := fun u => hB.kp ((Kp.refl [g] _).set (.inl (by simp)) _) (by simpa using Ne.symm hgr')
    have HBX := Lib.hid BX
    have hgwr := hr.out.lt
    clear BX
    cases bb with
    | true =>
      go_wp2_with fail
      go_ret
      exact ⟨q, true, r', cap', l', rfl, ⟨hr.out.set 2 (.bool true), hr.le, hr.sz⟩, HBX.out _, KW.set (.inl (by simp)) _, hrw, fun h => (HST.out h).bad, HLE.out.1, by have := HLE.out.2; omega, fun e => (by cases e)⟩
    | false =>
    by_cases h3 : 300 < l'.length
    · have h3' : decide ((l'.length : Int) ≤ 300) = false := by simp; omega
      have h3'' : decide (l'.length ≤ 300) = false := by simp; omega
      go_wp2_with fail
      go_ret
      refine ⟨q, true, r', cap', l', rfl, ⟨hr.out.set 2 (.bool true), hr.le, hr.sz⟩, HBX.out _, KW.set (.inl (by simp)) _, hrw, fun h => ?_, HLE.out.1, by have := HLE.out.2; omega, fun e => (by cases e)⟩
      obtain ⟨D, h1, _, h4⟩ := (HST.out h).out
      refine h1 _ _ _ ?_
      rcases h4 with ⟨h4, _⟩ | ⟨_, rfl⟩
      · omega
      · exact AnsO.fail _ _ _ _ _
    have h3' : (l'.length : Int) ≤ 300 := by omega
    have hl300 : l.length ≤ 300 := by have := HLE.out.1; omega
    have S := HST.out hl300
    have h3n : l'.length ≤ 300 := by omega
    go_wp2_with fail
    refine (ssymbol_calls lit g nl gl ol cl ra ca s q false wr hr (hl2.kp K (by simp; exact HFL.out)) (Ra.kp K (by simp; exact fa.out)) HNL.out (by omega) hnlc hca HFL.out.1 fa.out.1).mono ?_
    rintro e w5 ⟨v, x, q1, b1, rfl, hr5, A5, hv, hvl, hvh, K5⟩
    have K45 := K.then (K5.mono (fun y hy => .inl (by simp at hy ⊢; exact .inl hy)))
    have KW5 := (Kp.of [g, r] O12).then K45
    obtain ⟨f, hf, HS⟩ := S.sym h3n A5
    have hB5 := hB.kp K5 (by simpa using Ne.symm hgr')
    have d2 : w5.cell? ⟨g, 2, none⟩ = some (.bool b1) := (hr5.out.cell 2).trans rfl
    have HHS := Lib.hid HS
    have HV := Lib.hid hv
    have hz5 := K45.size
    clear HS hv S A5
    cases b1 with
    | true =>
      go_wp2_with fail
      go_ret
      exact ⟨q1, true, r', cap', l', rfl, hr5, hB5, KW5, hrw, fun _ => HHS.out _ _ _ (AnsO.was _ _ _ _ _), HLE.out.1, by have := HLE.out.2; omega, fun e => (by cases e)⟩
    | false =>
    obtain ⟨rfl, hxn⟩ := HV.out rfl
    by_cases h256 : x = 256
    · subst h256
      go_wp2_with fail
      go_ret
      have HX := HHS.out l' q1 false (by
        first | rw [if_pos rfl] | rw [if_pos trivial]
        exact ⟨fun e => (by cases e), fun _ => ⟨rfl, fun _ => rfl, fun h => absurd h h3⟩⟩)
      exact ⟨q1, false, r', cap', l', rfl, hr5, hB5, KW5, hrw, fun _ => HX, HLE.out.1, by have := HLE.out.2; omega, fun e => ⟨(HX.good e).1, .inr h3n⟩⟩
    have h256' : ((x : Int) == 256) = false := by simp; omega
    by_cases hlt : x < 256
    · have hlt' : (x : Int) < 256 := by omega
      have hu8 : IntKind.u8.wrap (x : Int) = (x : Int) := wr_u8 _ (by omega) (by omega)
      go_wp2_with (at_builtin; go_must (refine wpList_byte (x := x) rfl _ _ rfl rfl hB5.out rfl (by omega) ?_); intro r6 cap6 w6 hby6 hr6 hrl6 K6 hc1 hc2)
      have hg6 : g ≠ r6 := by have := hr5.out.lt; rcases hr6 with e | e <;> omega
      have hr66 := hr5.kp K6 (by simpa using hgr')
      refine ⟨⟨q1, false, r6, cap6, l' ++ [x], by rw [List.length_append]; rfl, hr66, ⟨by rw [List.length_append]; exact hby6⟩, K45.trans K6 (fun y hy => ?_), by omega, hg6, Lib.hid (fun _ => ⟨if l'.length < 300 then packed lit dist f (l' ++ [x]) else De.bad, fun l2 p2 b2 h => HHS.out l2 p2 b2 ?_, by rw [List.length_append]; simp; omega, ?_⟩), Lib.hid ⟨by rw [List.length_append]; have := HLE.out.1; omega, by rw [List.length_append]; simp; have := HLE.out.1; omega, fun _ => by rw [List.length_append]; simp; omega⟩⟩, tokFar_lt hr hr66 (by omega) (fun _ => by omega) (by omega)⟩
      · simp at hy ⊢; omega
      · rw [if_neg h256, if_pos hlt]; exact h
      · by_cases h300 : l'.length < 300
        · rw [if_pos h300]; exact .inl ⟨by rw [List.length_append]; simp; omega, f, by rw [List.length_append]; simp; omega, rfl⟩
        · rw [if_neg h300]; exact .inr ⟨by rw [List.length_append]; simp; omega, rfl⟩
    have hge : 257 ≤ x := by omega
    have hlt' : ¬ (x : Int) < 256 := by omega
    have hl'1 := HLE.out.1
    go_wp2_with fail
    refine (sagain_calls g r' cap' l'.length x gd od nd cd rb cb s q1 l' dist w5 hr5 hB5 rfl h3n hgr' hge (by omega) (hd2.kp K45 (by simp; exact HFD.out)) (Rb.kp K45 (by simp; exact fb.out)) HND.out (by omega) hndc hcb HFD.out.1 fb.out.1).mono ?_
    rintro e w6 ⟨q2, b2, r6, cap6, l2, rfl, hr6, hB6, K6, hr6w, A6, h1, h2, h4⟩
    have hg6 : g ≠ r6 := by have := hr5.out.lt; rcases hr6w with e | e <;> omega
    go_wp2_with fail
    refine ⟨⟨q2, b2, r6, cap6, l2, rfl, hr6, hB6, K45.trans K6 (fun y hy => ?_), by omega, hg6, Lib.hid (fun _ => ?_), Lib.hid ⟨by omega, by omega, fun _ => by omega⟩⟩, tokFar_lt hr hr6 (by omega) (fun e => h4 e) (by omega)⟩
    · simp at hy ⊢; omega
    · cases b2 with
      | false =>
        have := h4 rfl
        refine ⟨if l2.length ≤ 300 then packed lit dist f l2 else De.bad, fun l3 p3 b3 h => HHS.out _ _ _ ?_, by omega, ?_⟩
        · rw [if_neg h256, if_neg hlt]; exact AnsO.bind A6 h
        · by_cases h300 : l2.length ≤ 300
          · rw [if_pos h300]; exact .inl ⟨h300, f, by omega, rfl⟩
          · rw [if_neg h300]; exact .inr ⟨by omega, rfl⟩
      | true =>
        refine ⟨if l2.length ≤ 300 then packed lit dist 302 l2 else De.bad, fun l3 p3 b3 h => HHS.out _ _ _ ?_, by omega, ?_⟩
        · rw [if_neg h256, if_neg hlt]
          refine AnsO.bind A6 ?_
          cases b3 with
          | false => have := (h.good rfl).1; cases this
          | true => exact AnsO.was _ _ _ _ _
        · by_cases h300 : l2.length ≤ 300
          · rw [if_pos h300]; exact .inl ⟨h300, 302, by omega, rfl⟩
          · rw [if_neg h300]; exact .inr ⟨by omega, rfl⟩
end Go.Proofs.YtncidljdfipigaaDoor.Wi
