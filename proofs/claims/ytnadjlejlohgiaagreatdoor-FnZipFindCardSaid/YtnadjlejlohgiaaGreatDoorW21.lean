/- Own texts joined: Sg, Sk. -/
import Derived.Deep.RegionHeld3
import Derived.Test.YtnadjlejlohgiaaGreatDoorW4
import Derived.Test.YtnadjlejlohgiaaGreatDoorW12
import Derived.Test.YtnadjlejlohgiaaGreatDoorW15
import Derived.Test.YtnadjlejlohgiaaGreatDoorW16
import Derived.Test.YtnadjlejlohgiaaGreatDoorW17
import Derived.Test.YtnadjlejlohgiaaGreatDoorW20
/- The specification's reader takes a length and a distance. Conditions: a reader that is not bad, bytes, lengths and codes. -/
namespace Go.Proofs.YtnadjlejlohgiaaGreatDoor.Wi
open Go.RowKit Go.Proofs.YtnadjlejlohgiaaGreatDoor.Mem Go.Proofs.YtnadjlejlohgiaaGreatDoor.Bt Go.Proofs.YtnadjlejlohgiaaGreatDoor.Cd Go.Proofs.YtnadjlejlohgiaaGreatDoor.De
open Go.Proofs.YtnadjlejlohgiaaGreatDoor.Lz (copy copy_length)
set_option linter.unusedVariables false
set_option linter.unusedSimpArgs false
/-- A row that a call made: so many numbers. -/
def GivesN (w : World) (n : Nat) (l : List Nat) (e : Ending) (w' : World) : Prop := ∃ r cap, e = .returned (.slice (some ⟨r, 0, none⟩) n cap) ∧ RowO w' r 0 3 (i64s l) ∧ n ≤ cap ∧ w.heap.size ≤ r ∧ r < w'.heap.size ∧ On w w'
theorem GivesI.toN {w w' : World} {l : List Nat} {e : Ending} {n : Nat} (h : GivesI w l e w') (hn : l.length = n) : GivesN w n l e w' := by
  obtain ⟨r, cap, rfl, N, h1, h2, O⟩ := h
  subst hn
  exact ⟨r, cap, rfl, N.row.1.toO, N.row.2.2.1, h1, h2, O⟩
theorem slong28 (w : World) : Calls Tryz.prog 164 #[] w (GivesN w 28 longBits) := (slong_calls w).mono fun _ _ h => GivesI.toN h rfl
theorem sback30 (w : World) : Calls Tryz.prog 165 #[] w (GivesN w 30 backBits) := (sback_calls w).mono fun _ _ h => GivesI.toN h rfl
theorem slbase (r cap : Nat) (w : World) (hR : RowO w r 0 3 (i64s longBits)) (hc : 28 ≤ cap) : Calls Tryz.prog 163 #[.slice (some ⟨r, 0, none⟩) 28 cap, .int .i64 3] w (GivesN w 28 longBase) :=
  (sbase_calls longBits r 0 28 cap 3 w hR rfl (by omega) hc (by decide) (by omega)).mono fun _ _ h => GivesI.toN h rfl
theorem sbbase (r cap : Nat) (w : World) (hR : RowO w r 0 3 (i64s backBits)) (hc : 30 ≤ cap) : Calls Tryz.prog 163 #[.slice (some ⟨r, 0, none⟩) 30 cap, .int .i64 1] w (GivesN w 30 backBase) :=
  (sbase_calls backBits r 0 30 cap 1 w hR rfl (by omega) hc (by decide) (by omega)).mono fun _ _ h => GivesI.toN h rfl
/-- What again leaves: as SOut, and more bytes than before where it is not bad. -/
structure AOut (d : Dec (List Nat)) (s : ByteArray) (p : Nat) (b : Bool) (l : List Nat) (g r : Nat) (w : World) (e : Ending) (w' : World) : Prop where mk ::
  out : ∃ (p' : Nat) (b' : Bool) (r' cap' : Nat) (l' : List Nat), e = .returned (.slice (some ⟨r', 0, none⟩) l'.length cap') ∧ SR w' g s p' b' ∧ By w' r' cap' l' ∧ Kp [g, r] w w' ∧ (r' = r ∨ w.heap.size ≤ r') ∧ AnsO d s p b l' p' b' ∧ l.length ≤ l'.length ∧ l'.length ≤ l.length + 60 ∧ (b' = false → l.length < l'.length)
theorem ans_put {l : List Nat} {L B : Nat} {s : ByteArray} {q : Nat} {b : Bool} (h1 : 1 ≤ L) (hok : backOk l.length L B) : AnsO (De.put l L B) s q b (copy l B L) q b := by
  have e : De.put l L B = if (copy l B L).length ≤ 300 then De.ret (copy l B L) else De.bad := by unfold De.put; rw [add_back h1, if_pos hok]
  rw [e]
  refine ⟨fun h => .inl h, fun h => ⟨h, fun h3 => ?_, fun h3 => ?_⟩⟩
  · rw [if_pos h3]; rfl
  · rw [if_neg (by omega)]; rfl
theorem ans_put_not {l : List Nat} {L B : Nat} {s : ByteArray} {q q' : Nat} {b : Bool} {y : List Nat} (h1 : 1 ≤ L) (hno : ¬ backOk l.length L B) : AnsO (De.put l L B) s q b y q' true := by
  have e : De.put l L B = De.bad := by unfold De.put; rw [add_back h1, if_neg hno]
  rw [e]
  exact AnsO.fail _ _ _ _ _
set_option maxRecDepth 100000 in
set_option maxHeartbeats 2000000 in
theorem sagain_calls (g r cap n x gd od nd cd ga ca : Nat) (s : ByteArray) (p : Nat) (l dist : List Nat) (w4 : World) (hw : SR w4 g s p false) (hb : By w4 r cap l) (hn : l.length = n) (hn2 : n ≤ 300) (hgr : g ≠ r) (hx1 : 257 ≤ x) (hx2 : x ≤ 1000)
    (hd : RowO w4 gd od 3 (i64s dist)) (ha : RowO w4 ga 0 3 (i64s (codes dist))) (hnd : dist.length = nd) (hnd2 : nd ≤ 1000) (hcd : nd ≤ cd) (hca : nd ≤ ca) (fd : gd ≠ g) (fa : ga ≠ g) :
    Calls Tryz.prog 174 #[.pointer (some ⟨g, 0, none⟩), .slice (some ⟨r, 0, none⟩) n cap, .int .i64 (x : Int), .slice (some ⟨gd, od, none⟩) nd cd, .slice (some ⟨ga, 0, none⟩) nd ca] w4 fun e w' => AOut (De.again dist l (x - 257)) s p false l g r w4 e w' := by
  have HN := Lib.hid hn
  have HND := Lib.hid hnd
  have HFD := Lib.hid fd
  have HFA := Lib.hid fa
  have hgS := hw.out.lt
  have hrS := hb.lt
  clear hn hnd fd fa
  obtain ⟨k, hk⟩ : ∃ k, x - 257 = k := ⟨_, rfl⟩
  have ek : IntKind.i64.wrap ((x : Int) - 257) = (k : Int) := by rw [IntKind.wrap_i64]; omega
  have hk1 : k ≤ 1000 := by omega
  rw [hk]
  clear hk
  go_enter Tryz.func174, Tryz.ntmps174
  go_wp2_with fail
  refine (slong28 w4).mono ?_
  rintro e w5 ⟨rA, cA, rfl, RA, hcA, hA1, hA2, O5⟩
  by_cases hk28 : 28 ≤ k
  · have hk28' : (28 : Int) ≤ k := by omega
    have hw5 := hw.on O5
    have fr : ∀ i, w5.frozen? ⟨g, i, none⟩ = false := hw5.out.frozen
    have c2 := (hw5.out.cell 2).trans rfl
    go_wp2_with fail
    go_ret
    refine ⟨p, true, r, cap, l, by rw [HN.out]; rfl, ⟨hw5.out.set 2 (.bool true), hw5.le, hw5.sz⟩, (hb.on O5).kp ((Kp.refl [g] _).set (.inl (by simp)) _) (by simpa using Ne.symm hgr), (Kp.of _ O5).set (.inl (by simp)) _, .inl rfl, ?_, Nat.le_refl _, by omega, fun e => (by cases e)⟩
    unfold De.again
    rw [if_pos hk28]
    exact AnsO.fail _ _ _ _ _
  have hk28' : ¬ (28 : Int) ≤ k := by omega
  have hk0 : (k : Int) < 28 := by omega
  have hcL := fun W r3 (R : RowO W r3 0 3 (i64s longBase)) => R.cell (i64s_get (show k < longBase.length from by rw [show longBase.length = 28 from rfl]; omega))
  have hcLb := fun W r3 (R : RowO W r3 0 3 (i64s longBits)) => R.cell (i64s_get (show k < longBits.length from by rw [show longBits.length = 28 from rfl]; omega))
  simp only [Nat.zero_add] at hcL hcLb
  have hyl : longBits.getD k 0 ≤ 5 := by
    have : ∀ k, k < 28 → longBits.getD k 0 ≤ 5 := by decide
    exact this k (by omega)
  have hxl : longBase.getD k 0 ≤ 300 ∧ 3 ≤ longBase.getD k 0 := by
    have : ∀ k, k < 28 → longBase.getD k 0 ≤ 300 ∧ 3 ≤ longBase.getD k 0 := by decide
    exact this k (by omega)
  obtain ⟨xl, hxl0⟩ : ∃ xl, longBase.getD k 0 = xl := ⟨_, rfl⟩
  obtain ⟨yl, hyl0⟩ : ∃ yl, longBits.getD k 0 = yl := ⟨_, rfl⟩
  rw [hxl0] at hcL hxl
  rw [hyl0] at hcLb hyl
  have HXL0 := Lib.hid hxl0
  have HYL0 := Lib.hid hyl0
  have HCL := Lib.hid hcL
  have HCLB := Lib.hid hcLb
  have hga := fun W h => snum_calls g yl s p false W h (by omega)
  have hv1 := numAt_lt s p yl
  have hp5 : 2 ^ yl ≤ 2 ^ 5 := Nat.pow_le_pow_right (by omega) hyl
  have A1 := Lib.hid (ans_num (n := yl) (b := false) hw.le)
  have HGA := Lib.hid hga
  clear hxl0 hyl0 hcL hcLb hga
  generalize hnv : numAt s p yl = nv at *
  obtain ⟨Lx, hLx⟩ : ∃ Lx, xl + nv = Lx := ⟨_, rfl⟩
  have ea : IntKind.i64.wrap ((xl : Int) + (nv : Int)) = (Lx : Int) := by rw [IntKind.wrap_i64]; omega
  have hLx1 : 1 ≤ Lx := by omega
  have hLx2 : Lx ≤ 1000 := by omega
  have HLX := Lib.hid hLx
  have HSR := Lib.hid hw
  clear hnv hLx
  go_wp2_with fail
  have HR5 := Lib.hid (hw.on O5)
  have hb5 := hb.on O5
  have hd5 := hd.on O5
  have ha5 := ha.on O5
  have hz5 := O5.size
  have hgS5 : g < w5.heap.size := by omega
  have hrS5 : r < w5.heap.size := by omega
  clear hA1 hA2 hcA RA hgS hrS hw hb hd ha
  have hgS := hgS5
  refine wp_region_held_drew (S := fun W => Kp [g] w5 W) (by kernel_rfl) (Kp.refl _ _).drew (fun hHeld => ?_)
  have Ow0 := (On.refl w5).drew
  refine Tk.tk 2 ?_ rfl (.inl ⟨by rfl, ?_⟩) ?_
  rotate_left
  · intro w hSw; go_simp; first | done | with_reducible rfl
  try simp only [Act.put, Tk.s3]
  refine Tk.tk 5 ?_ rfl (.inl ⟨by rfl, ?_⟩) ?_
  rotate_left
  · intro w hSw; go_simp; first | done | with_reducible rfl
  try simp only [Act.put, Tk.s3]
  refine Tk.tk 7 ?_ rfl (.inl ⟨by rfl, ?_⟩) ?_
  rotate_left
  · intro w hSw; go_simp; first | done | with_reducible rfl
  try simp only [Act.put, Tk.s3]
  refine wpAnyH_strong (S' := fun W => Kp [g] w5.drew W) (fun W h => Kp.then (Kp.of [g] Ow0) h) ?_
  have hHeldN : (fun W => Kp [g] w5.drew W) w5.drew := Kp.refl _ _
  generalize w5.drew = wD at *
  refine Tk.rd 0 rfl fun K hK => ?_
  go_simp
  refine (slong28 _).mono ?_
  rintro e wA ⟨rA, cA, rfl, RA, hcA, hA1, hA2, OA⟩
  have OwA := Ow0.call OA
  refine hK.out _ _ (Kp.of [g] OA) (fun hHeld => ?_)
  clear hK K
  try simp only [Act.put, Tk.s3]
  refine wpAnyH_strong (S' := fun W => Kp [g] wA W) (fun W h => Kp.then (Kp.of [g] OA) h) ?_
  have hHeldN : (fun W => Kp [g] wA W) wA := Kp.refl _ _
  refine Tk.rd 1 rfl fun K hK => ?_
  go_simp
  refine (slbase rA cA wA RA hcA).mono ?_
  rintro e wB ⟨rB, cB, rfl, RB, hcB, hB1, hB2, OB⟩
  have OwB := OwA.call OB
  have CB : ∀ W, Kp [g] wB W → W.cell? ⟨rB, k, none⟩ = some (.int .i64 (xl : Int)) := fun W h => (h.cell RB.lt (show rB ∉ [g] by simp; have := hgS; have := OwA.size; omega)).trans (HCL.out wB rB RB)
  refine hK.out _ _ (Kp.of [g] OB) (fun hHeld => ?_)
  clear hK K
  try simp only [Act.put, Tk.s3]
  refine wpAnyH_strong (S' := fun W => Kp [g] wB W) (fun W h => Kp.then (Kp.of [g] OB) h) ?_
  have hHeldN : (fun W => Kp [g] wB W) wB := Kp.refl _ _
  refine Tk.tk 3 ?_ rfl (.inl ⟨by rfl, ?_⟩) ?_
  rotate_left
  · intro w hSw; go_simp; first | done | with_reducible rfl
  try simp only [Act.put, Tk.s3]
  refine Tk.tk 4 ?_ rfl (.inl ⟨by rfl, ?_⟩) ?_
  rotate_left
  · intro w hSw; go_simp; first | done | with_reducible rfl
  try simp only [Act.put, Tk.s3]
  refine Tk.rd 6 rfl fun K hK => ?_
  go_simp
  refine (slong28 _).mono ?_
  rintro e wC ⟨rC, cC, rfl, RC, hcC, hC1, hC2, OC⟩
  have OwC := OwB.call OC
  have CC : ∀ W, Kp [g] wC W → W.cell? ⟨rC, k, none⟩ = some (.int .i64 (yl : Int)) := fun W h => (h.cell RC.lt (show rC ∉ [g] by simp; have := hgS; have := OwB.size; omega)).trans (HCLB.out wC rC RC)
  refine hK.out _ _ (Kp.of [g] OC) (fun hHeld => ?_)
  clear hK K
  try simp only [Act.put, Tk.s3]
  refine wpAnyH_strong (S' := fun W => Kp [g] wC W) (fun W h => Kp.then (Kp.of [g] OC) h) ?_
  have hHeldN : (fun W => Kp [g] wC W) wC := Kp.refl _ _
  refine Tk.tk 8 ?_ rfl (.inl ⟨by rfl, ?_⟩) ?_
  rotate_left
  · intro w hSw; go_simp; first | done | with_reducible rfl
  try simp only [Act.put, Tk.s3]
  refine Tk.tk 9 ?_ rfl (.inl ⟨by rfl, ?_⟩) ?_
  rotate_left
  · intro w hSw; go_simp; first | done | with_reducible rfl
  try simp only [Act.put, Tk.s3]
  refine Tk.rd 10 rfl fun K hK => ?_
  go_simp
  refine (HGA.out _ (HR5.out.on OwC)).mono ?_
  rintro e wE ⟨rfl, hrE, KE⟩
  have KwE : Kp [g] w5 wE := (Kp.of [g] OwC).then KE
  refine hK.out _ _ (KE) (fun hHeld => ?_)
  clear hK K
  try simp only [Act.put, Tk.s3]
  refine wpAnyH_strong (S' := fun W => Kp [g] wE W) (fun W h => Kp.then (KE) h) ?_
  have hHeldN : (fun W => Kp [g] wE W) wE := Kp.refl _ _
  refine Tk.tk 11 ?_ rfl (.inl ⟨by rfl, ?_⟩) ?_
  rotate_left
  · intro w hSw; go_simp; first | done | with_reducible rfl
  try simp only [Act.put, Tk.s3]
  refine Tk.tk 12 ?_ rfl (.inl ⟨by rfl, ?_⟩) ?_
  rotate_left
  · intro w hSw; go_simp; first | done | with_reducible rfl
  try simp only [Act.put, Tk.s3]
  refine wpAnyH_done (by kernel_rfl) ?_ _
  clear hHeld hHeldN CB CC RA RB RC hcA hcB hcC hA1 hA2 hB1 hB2 hC1 hC2 OA OB OC OwA OwB OwC Ow0 KE
  go_wp2_with fail
  have bE := hb5.kp KwE (by simpa using Ne.symm hgr)
  have dE := hd5.kp KwE (by simpa using HFD.out)
  have aE := ha5.kp KwE (by simpa using HFA.out)
  have hqE := hrE.le
  generalize hq1 : min (p + yl) (8 * s.size) = q1 at *
  generalize hb1 : (false || decide (8 * s.size < p + yl)) = b1 at *
  clear hq1 hb1 HGA HCL HCLB
  refine (ssymbol_calls dist g nd gd od cd ga ca s q1 b1 wE hrE dE aE HND.out hnd2 hcd hca HFD.out HFA.out).mono ?_
  rintro e w6 ⟨v, j, q2, b2, rfl, hr6, A2, hv, hvl, hvh, K6⟩
  have HAG : RowKit.Hid (∀ l' p' b', AnsO (if 30 ≤ j then De.bad else next (num (backBits.getD j 0)) fun y => De.put l Lx (backBase.getD j 0 + y)) s q2 b2 l' p' b' → AnsO (De.again dist l k) s p false l' p' b') := Lib.hid (fun l' p' b' h => by
    unfold De.again
    rw [if_neg hk28, HYL0.out, HXL0.out]
    refine AnsO.next A1.out ?_
    rw [HLX.out]
    exact AnsO.next A2 h)
  have HA2 := Lib.hid A2
  clear A2 hb5 hd5 ha5
  have b6 := bE.kp K6 (by simpa using Ne.symm hgr)
  have K56 := KwE.then K6
  have c2 : w6.cell? ⟨g, 2, none⟩ = some (.bool b2) := (hr6.out.cell 2).trans rfl
  have fr : ∀ i, w6.frozen? ⟨g, i, none⟩ = false := hr6.out.frozen
  have KW : Kp [g, r] w4 w6 := (Kp.of _ O5).then (K56.mono (fun y hy => .inl (by simp at hy ⊢; exact .inl hy)))
  have hz4 := KW.size
  have h46 := K56.size
  have hgS6 : g < w6.heap.size := by omega
  cases b2 with
  | true =>
    have HV := Lib.hid hv
    clear hv
    go_wp2_with fail
    go_ret
    exact ⟨q2, true, r, cap, l, by rw [HN.out]; rfl, ⟨hr6.out.set 2 (.bool true), hr6.le, hr6.sz⟩, b6.kp ((Kp.refl [g] _).set (.inl (by simp)) _) (by simpa using Ne.symm hgr), KW.set (.inl (by simp)) _, .inl rfl, HAG.out _ _ _ (AnsO.was _ _ _ _ _), Nat.le_refl _, by omega, fun e => (by cases e)⟩
  | false =>
    obtain ⟨rfl, hjn⟩ := hv rfl
    clear hv
    go_wp2_with fail
    refine (sback30 w6).mono ?_
    rintro e w7 ⟨rA, cA, rfl, RA, hcA, hA1, hA2, O7⟩
    have hr7 := hr6.on O7
    have b7 := b6.on O7
    have KW7 := KW.then (Kp.of _ O7)
    have hz7 := O7.size
    clear RA hcA hA1 hA2
    by_cases hj30 : 30 ≤ j
    · have hj30' : (30 : Int) ≤ j := by omega
      have c7 : w7.cell? ⟨g, 2, none⟩ = some (.bool false) := (hr7.out.cell 2).trans rfl
      have fr7 : ∀ i, w7.frozen? ⟨g, i, none⟩ = false := hr7.out.frozen
      go_wp2_with fail
      go_ret
      refine ⟨q2, true, r, cap, l, by rw [HN.out]; rfl, ⟨hr7.out.set 2 (.bool true), hr7.le, hr7.sz⟩, b7.kp ((Kp.refl [g] _).set (.inl (by simp)) _) (by simpa using Ne.symm hgr), KW7.set (.inl (by simp)) _, .inl rfl, HAG.out _ _ _ ?_, Nat.le_refl _, by omega, fun e => (by cases e)⟩
      rw [if_pos hj30]
      exact AnsO.fail _ _ _ _ _
    have hj30' : ¬ (30 : Int) ≤ j := by omega
    have hj0 : (j : Int) < 30 := by omega
    have hcB := fun W r3 (R : RowO W r3 0 3 (i64s backBase)) => R.cell (i64s_get (show j < backBase.length from by rw [show backBase.length = 30 from rfl]; omega))
    have hcBb := fun W r3 (R : RowO W r3 0 3 (i64s backBits)) => R.cell (i64s_get (show j < backBits.length from by rw [show backBits.length = 30 from rfl]; omega))
    simp only [Nat.zero_add] at hcB hcBb
    have hyb : backBits.getD j 0 ≤ 13 := by
      have : ∀ k, k < 30 → backBits.getD k 0 ≤ 13 := by decide
      exact this j (by omega)
    have hxb : backBase.getD j 0 ≤ 40000 := by
      have : ∀ k, k < 30 → backBase.getD k 0 ≤ 40000 := by decide +kernel
      exact this j (by omega)
    obtain ⟨xb, hxb0⟩ : ∃ xb, backBase.getD j 0 = xb := ⟨_, rfl⟩
    obtain ⟨yb, hyb0⟩ : ∃ yb, backBits.getD j 0 = yb := ⟨_, rfl⟩
    rw [hxb0] at hcB hxb HAG
    rw [hyb0] at hcBb hyb HAG
    have HCB := Lib.hid hcB
    have HCBB := Lib.hid hcBb
    have hv2 := numAt_lt s q2 yb
    have hp13 : 2 ^ yb ≤ 2 ^ 13 := Nat.pow_le_pow_right (by omega) hyb
    have A8 := Lib.hid (ans_num (n := yb) (b := false) hr7.le)
    have HGB := Lib.hid (fun W h => snum_calls g yb s q2 false W h (by omega))
    clear hxb0 hyb0 hcB hcBb
    generalize hnv2 : numAt s q2 yb = nv2 at *
    obtain ⟨Bx, hBx⟩ : ∃ Bx, xb + nv2 = Bx := ⟨_, rfl⟩
    have eb : IntKind.i64.wrap ((xb : Int) + (nv2 : Int)) = (Bx : Int) := by rw [IntKind.wrap_i64]; omega
    have HBX := Lib.hid hBx
    have hBl : Bx ≤ 100000 := by omega
    clear hnv2 hBx ea
    have HR7 := Lib.hid hr7
    have hgS : g < w7.heap.size := by omega
    clear c2 fr
    go_wp2_with fail
    refine wp_region_held_drew (S := fun W => Kp [g] w7 W) (by kernel_rfl) (Kp.refl _ _).drew (fun hHeld => ?_)
    have Ow0 := (On.refl w7).drew
    refine Tk.tk 2 ?_ rfl (.inl ⟨by rfl, ?_⟩) ?_
    rotate_left
    · intro w hSw; go_simp; first | done | with_reducible rfl
    try simp only [Act.put, Tk.s3]
    refine Tk.tk 5 ?_ rfl (.inl ⟨by rfl, ?_⟩) ?_
    rotate_left
    · intro w hSw; go_simp; first | done | with_reducible rfl
    try simp only [Act.put, Tk.s3]
    refine Tk.tk 7 ?_ rfl (.inl ⟨by rfl, ?_⟩) ?_
    rotate_left
    · intro w hSw; go_simp; first | done | with_reducible rfl
    try simp only [Act.put, Tk.s3]
    refine wpAnyH_strong (S' := fun W => Kp [g] w7.drew W) (fun W h => Kp.then (Kp.of [g] Ow0) h) ?_
    have hHeldN : (fun W => Kp [g] w7.drew W) w7.drew := Kp.refl _ _
    generalize w7.drew = wD at *
    refine Tk.rd 0 rfl fun K hK => ?_
    go_simp
    refine (sback30 _).mono ?_
    rintro e wA ⟨rA, cA, rfl, RA, hcA, hA1, hA2, OA⟩
    have OwA := Ow0.call OA
    refine hK.out _ _ (Kp.of [g] OA) (fun hHeld => ?_)
    clear hK K
    try simp only [Act.put, Tk.s3]
    refine wpAnyH_strong (S' := fun W => Kp [g] wA W) (fun W h => Kp.then (Kp.of [g] OA) h) ?_
    have hHeldN : (fun W => Kp [g] wA W) wA := Kp.refl _ _
    refine Tk.rd 1 rfl fun K hK => ?_
    go_simp
    refine (sbbase rA cA wA RA hcA).mono ?_
    rintro e wB ⟨rB, cB, rfl, RB, hcB, hB1, hB2, OB⟩
    have OwB := OwA.call OB
    have CB : ∀ W, Kp [g] wB W → W.cell? ⟨rB, j, none⟩ = some (.int .i64 (xb : Int)) := fun W h => (h.cell RB.lt (show rB ∉ [g] by simp; have := hgS; have := OwA.size; omega)).trans (HCB.out wB rB RB)
    refine hK.out _ _ (Kp.of [g] OB) (fun hHeld => ?_)
    clear hK K
    try simp only [Act.put, Tk.s3]
    refine wpAnyH_strong (S' := fun W => Kp [g] wB W) (fun W h => Kp.then (Kp.of [g] OB) h) ?_
    have hHeldN : (fun W => Kp [g] wB W) wB := Kp.refl _ _
    refine Tk.tk 3 ?_ rfl (.inl ⟨by rfl, ?_⟩) ?_
    rotate_left
    · intro w hSw; go_simp; first | done | with_reducible rfl
    try simp only [Act.put, Tk.s3]
    refine Tk.tk 4 ?_ rfl (.inl ⟨by rfl, ?_⟩) ?_
    rotate_left
    · intro w hSw; go_simp; first | done | with_reducible rfl
    try simp only [Act.put, Tk.s3]
    refine Tk.rd 6 rfl fun K hK => ?_
    go_simp
    refine (sback30 _).mono ?_
    rintro e wC ⟨rC, cC, rfl, RC, hcC, hC1, hC2, OC⟩
    have OwC := OwB.call OC
    have CC : ∀ W, Kp [g] wC W → W.cell? ⟨rC, j, none⟩ = some (.int .i64 (yb : Int)) := fun W h => (h.cell RC.lt (show rC ∉ [g] by simp; have := hgS; have := OwB.size; omega)).trans (HCBB.out wC rC RC)
    refine hK.out _ _ (Kp.of [g] OC) (fun hHeld => ?_)
    clear hK K
    try simp only [Act.put, Tk.s3]
    refine wpAnyH_strong (S' := fun W => Kp [g] wC W) (fun W h => Kp.then (Kp.of [g] OC) h) ?_
    have hHeldN : (fun W => Kp [g] wC W) wC := Kp.refl _ _
    refine Tk.tk 8 ?_ rfl (.inl ⟨by rfl, ?_⟩) ?_
    rotate_left
    · intro w hSw; go_simp; first | done | with_reducible rfl
    try simp only [Act.put, Tk.s3]
    refine Tk.tk 9 ?_ rfl (.inl ⟨by rfl, ?_⟩) ?_
    rotate_left
    · intro w hSw; go_simp; first | done | with_reducible rfl
    try simp only [Act.put, Tk.s3]
    refine Tk.rd 10 rfl fun K hK => ?_
    go_simp
    refine (HGB.out _ (HR7.out.on OwC)).mono ?_
    rintro e wE ⟨rfl, hrE, KE⟩
    have KwE : Kp [g] w7 wE := (Kp.of [g] OwC).then KE
    refine hK.out _ _ (KE) (fun hHeld => ?_)
    clear hK K
    try simp only [Act.put, Tk.s3]
    refine wpAnyH_strong (S' := fun W => Kp [g] wE W) (fun W h => Kp.then (KE) h) ?_
    have hHeldN : (fun W => Kp [g] wE W) wE := Kp.refl _ _
    refine Tk.tk 11 ?_ rfl (.inl ⟨by rfl, ?_⟩) ?_
    rotate_left
    · intro w hSw; go_simp; first | done | with_reducible rfl
    try simp only [Act.put, Tk.s3]
    refine Tk.tk 12 ?_ rfl (.inl ⟨by rfl, ?_⟩) ?_
    rotate_left
    · intro w hSw; go_simp; first | done | with_reducible rfl
    try simp only [Act.put, Tk.s3]
    refine wpAnyH_done (by kernel_rfl) ?_ _
    clear hHeld hHeldN CB CC RA RB RC hcA hcB hcC hA1 hA2 hB1 hB2 hC1 hC2 OA OB OC OwA OwB OwC Ow0 KE
    go_wp2_with fail
    have bE2 := b7.kp KwE (by simpa using Ne.symm hgr)
    have KWE := KW7.then (KwE.mono (fun y hy => .inl (by simp at hy ⊢; exact .inl hy)))
    generalize hq3 : min (q2 + yb) (8 * s.size) = q3 at *
    generalize hb3 : (false || decide (8 * s.size < q2 + yb)) = b3 at *
    have HPUT : RowKit.Hid (∀ l' p' b', AnsO (De.put l Lx Bx) s q3 b3 l' p' b' → AnsO (De.again dist l k) s p false l' p' b') := Lib.hid (fun l' p' b' h => HAG.out l' p' b' (by
      rw [if_neg hj30]
      refine AnsO.next A8.out ?_
      rw [HBX.out]; exact h))
    clear HAG A8 HGB HCB HCBB eb hq3 hb3
    have hzE := KWE.size
    refine (sadd_calls r cap n Lx Bx l wE bE2 HN.out (by omega) hLx1 (by omega) hBl).mono ?_
    rintro e w9 (⟨hok, r9, cap9, rfl, hB9, M9⟩ | ⟨hno, rfl, O9⟩)
    · have hr9 := hrE.kp M9.kp (by simpa using hgr)
      have K49 : Kp [g, r] w4 w9 := KWE.trans M9.kp (fun y hy => by simp at hy ⊢; omega)
      have hcl := copy_length l Bx Lx
      rw [HN.out] at hcl
      have HCL := Lib.hid hcl
      have hok60 : Lx ≤ 60 := hok.2.1
      clear hcl
      go_wp2_with fail
      go_ret
      refine ⟨q3, b3, r9, cap9, copy l Bx Lx, by rw [HCL.out]; rfl, hr9, hB9, K49, ?_, HPUT.out _ _ _ (ans_put hLx1 (by rw [HN.out]; exact hok)), by rw [HCL.out, HN.out]; omega, by rw [HCL.out, HN.out]; omega, fun _ => (by rw [HCL.out, HN.out]; omega)⟩
      rcases M9.at_ with e | e
      · exact .inl e
      · right; omega
    · have hr9 := hrE.on O9
      have c9 : w9.cell? ⟨g, 2, none⟩ = some (.bool b3) := (hr9.out.cell 2).trans rfl
      have fr9 : ∀ i, w9.frozen? ⟨g, i, none⟩ = false := hr9.out.frozen
      go_wp2_with fail
      go_ret
      exact ⟨q3, true, r, cap, l, by rw [HN.out]; rfl, ⟨hr9.out.set 2 (.bool true), hr9.le, hr9.sz⟩, (bE2.on O9).kp ((Kp.refl [g] _).set (.inl (by simp)) _) (by simpa using Ne.symm hgr), (KWE.then (Kp.of _ O9)).set (.inl (by simp)) _, .inl rfl, HPUT.out _ _ _ (ans_put_not hLx1 (by rw [HN.out]; exact hno)), Nat.le_refl _, by omega, fun e => (by cases e)⟩
end Go.Proofs.YtnadjlejlohgiaaGreatDoor.Wi

/- The specification's reader takes tokens up to the end. Conditions: a reader, bytes, lengths. -/
namespace Go.Proofs.YtnadjlejlohgiaaGreatDoor.Wi
open Go.RowKit Go.Proofs.YtnadjlejlohgiaaGreatDoor.Mem Go.Proofs.YtnadjlejlohgiaaGreatDoor.Bt Go.Proofs.YtnadjlejlohgiaaGreatDoor.Cd Go.Proofs.YtnadjlejlohgiaaGreatDoor.De
set_option linter.unusedVariables false
set_option linter.unusedSimpArgs false
theorem AnsO.bind {d : Dec (List Nat)} {k : List Nat → Dec (List Nat)} {s : ByteArray} {p p1 p2 : Nat} {b b1 b2 : Bool} {l1 y : List Nat} (h : AnsO d s p b l1 p1 b1) (h2 : AnsO (if l1.length ≤ 300 then k l1 else De.bad) s p1 b1 y p2 b2) : AnsO (De.next d k) s p b y p2 b2 := by
  by_cases hl : l1.length ≤ 300
  · rw [if_pos hl] at h2
    refine ⟨fun e => ?_, fun e => ?_⟩
    · cases hb1 : b1 with
      | true => exact (h.bad hb1).imp id (fun a => next_none a)
      | false =>
        obtain ⟨a1, a2, _⟩ := h.good hb1
        rcases h2.bad e with c | c
        · rw [hb1] at c; cases c
        · exact .inr (by rw [next_some (a2 hl)]; exact c)
    · obtain ⟨c1, c2, c3⟩ := h2.good e
      obtain ⟨a1, a2, _⟩ := h.good c1
      exact ⟨a1, fun h3 => by rw [next_some (a2 hl)]; exact c2 h3, fun h3 => by rw [next_some (a2 hl)]; exact c3 h3⟩
  · rw [if_neg hl] at h2
    refine ⟨fun e => ?_, fun e => ?_⟩
    · cases hb1 : b1 with
      | true => exact (h.bad hb1).imp id (fun a => next_none a)
      | false => exact .inr (next_none ((h.good hb1).2.2 (by omega)))
    · obtain ⟨c1, c2, c3⟩ := h2.good e
      obtain ⟨a1, _, a3⟩ := h.good c1
      exact ⟨a1, fun h3 => (by have := c2 h3; cases this), fun _ => next_none (a3 (by omega))⟩
/-- How far the loop over tokens still may go. -/
def tokFar (g : Nat) (o : Value) (w : World) : Nat := (match o with | .slice _ n _ => 2 * (1000 - n) | _ => 0) + (match w.cell? ⟨g, 2, none⟩ with | some (.bool false) => 1 | _ => 0)
theorem tokFar_lt {g n n' q q' : Nat} {s : ByteArray} {a a' : Option Addr} {c c' : Nat} {b' : Bool} {w w' : World} (h : SR w g s q false) (h' : SR w' g s q' b') (hn : n ≤ n') (hb : b' = false → n < n') (hle : n' ≤ 900) : tokFar g (.slice a' n' c') w' < tokFar g (.slice a n c) w := by
  unfold tokFar
  rw [(h.out.cell 2).trans rfl, (h'.out.cell 2).trans rfl]
  cases b' with
  | false =>
    have := hb rfl
    show 2 * (1000 - n') + 1 < 2 * (1000 - n) + 1
    omega
  | true =>
    show 2 * (1000 - n') + 0 < 2 * (1000 - n) + 1
    omega
set_option maxRecDepth 100000 in
set_option maxHeartbeats 2000000 in
theorem srdtoks_calls (g r cap n gl ol nl cl gd od nd cd : Nat) (s : ByteArray) (p : Nat) (b : Bool) (l lit dist : List Nat) (w : World) (hw : SR w g s p b) (hb : By w r cap l) (hn : l.length = n) (hgr : g ≠ r)
    (hl : RowO w gl ol 3 (i64s lit)) (hd : RowO w gd od 3 (i64s dist)) (hnl : lit.length = nl) (hnd : dist.length = nd) (hnlc : nl ≤ cl) (hndc : nd ≤ cd) (hlen : nl ≤ 1000) (hlen2 : nd ≤ 1000) (fl : gl ≠ g ∧ gl ≠ r) (fd : gd ≠ g ∧ gd ≠ r) :
    Calls Tryz.prog 155 #[.pointer (some ⟨g, 0, none⟩), .slice (some ⟨r, 0, none⟩) n cap, .slice (some ⟨gl, ol, none⟩) nl cl, .slice (some ⟨gd, od, none⟩) nd cd] w fun e w' => SOut (packed lit dist 302 l) s p b l g r w e w' := by
  have HN := Lib.hid hn
  have HNL := Lib.hid hnl
  have HND := Lib.hid hnd
  have HFL := Lib.hid fl
  have HFD := Lib.hid fd
  have hgl := hw.out.lt
  have hrl := hb.lt
  have hll := hl.lt
  have hdl := hd.lt
  clear hn hnl hnd fl fd
  go_enter Tryz.func155, Tryz.ntmps155
  go_wp2_with fail
  refine (scodes_calls lit gl ol nl cl w hl HNL.out (by omega) hnlc).mono ?_
  rintro e w1 ⟨ra, ca, rfl, Na, ha1, ha2, O1⟩
  have hcl : (codes lit).length = nl := by rw [codes_length]; exact HNL.out
  rw [hcl] at Na ⊢
  go_wp2_with fail
  refine (scodes_calls dist gd od nd cd w1 (hd.on O1) HND.out (by omega) hndc).mono ?_
  rintro e w2 ⟨rb, cb, rfl, Nb, hb1, hb2, O2⟩
  have hcd : (codes dist).length = nd := by rw [codes_length]; exact HND.out
  rw [hcd] at Nb ⊢
  have O12 := O1.call O2
  have Na2 := Na.on O2
  have hca : nl ≤ ca := Na.row.2.2.1
  have hcb : nd ≤ cb := Nb.row.2.2.1
  have Ra := Na2.row.1.toO
  have Rb := Nb.row.1.toO
  have hz1 := O1.size
  have hz2 := O2.size
  have hl2 := hl.on O12
  have hd2 := hd.on O12
  have hw2 := hw.on O12
  have hb2' := hb.on O12
  have fa : RowKit.Hid (ra ≠ g ∧ ra ≠ r) := Lib.hid ⟨by omega, by omega⟩
  have fb : RowKit.Hid (rb ≠ g ∧ rb ≠ r) := Lib.hid ⟨by omega, by omega⟩
  clear Na Nb Na2 hcl hcd hb hw hl hd ha1 ha2 hb1 hb2
  have hz0 := O12.size
  go_wp2_with fail
  go_loopw [1] (fun o wr => ∃ (q : Nat) (bb : Bool) (r' cap' : Nat) (l' : List Nat), o = .slice (some ⟨r', 0, none⟩) l'.length cap' ∧ SR wr g s q bb ∧ By wr r' cap' l' ∧ Kp [g, r] w2 wr ∧ (r' = r ∨ w2.heap.size ≤ r') ∧ g ≠ r' ∧ RowKit.Hid (l.length ≤ 300 → Still lit dist l s p b l' q bb) ∧ RowKit.Hid (l.length ≤ l'.length ∧ l'.length ≤ l.length + 360 ∧ (l.length < l'.length → l'.length ≤ 360))) (fun o wr => tokFar g o wr)
  case atStart => exact ⟨p, b, r, cap, l, by rw [HN.out], hw2, hb2', Kp.refl _ _, .inl rfl, hgr, Lib.hid (fun h => Still.start h), Lib.hid ⟨Nat.le_refl _, by omega, fun h => by omega⟩⟩
  case round =>
    obtain ⟨q, bb, r', cap', l', rfl, hr, hB, K, hr', hgr', HST, HLE⟩ := hrel
    have c2 : wr.cell? ⟨g, 2, none⟩ = some (.bool bb) := (hr.out.cell 2).trans rfl
    have fr : ∀ i, wr.frozen? ⟨g, i, none⟩ = false := hr.out.frozen
    have KW := (Kp.of [g, r] O12).then K
    have hrw : r' = r ∨ w.heap.size ≤ r' := by omega
    have BX : ∀ u : Value, By (wr.setCell ⟨g, 2, none⟩ u) r' cap' l' := fun u => hB.kp ((Kp.refl [g] _).set (.inl (by simp)) _) (by simpa using Ne.symm hgr')
    have HBX := Lib.hid BX
    have hgwr := hr.out.lt
    clear BX
    cases bb with
    | true =>
      go_wp2_with fail
      go_ret
      exact ⟨q, true, r', cap', l', rfl, ⟨hr.out.set 2 (.bool true), hr.le, hr.sz⟩, HBX.out _, KW.set (.inl (by simp)) _, hrw, fun h => (HST.out h).bad, HLE.out.1, by have := HLE.out.2; omega, fun e => (by cases e)⟩
    | false =>
    by_cases h3 : 300 < l'.length
    · have h3' : decide ((l'.length : Int) ≤ 300) = false := by simp; omega
      have h3'' : decide (l'.length ≤ 300) = false := by simp; omega
      go_wp2_with fail
      go_ret
      refine ⟨q, true, r', cap', l', rfl, ⟨hr.out.set 2 (.bool true), hr.le, hr.sz⟩, HBX.out _, KW.set (.inl (by simp)) _, hrw, fun h => ?_, HLE.out.1, by have := HLE.out.2; omega, fun e => (by cases e)⟩
      obtain ⟨D, h1, _, h4⟩ := (HST.out h).out
      refine h1 _ _ _ ?_
      rcases h4 with ⟨h4, _⟩ | ⟨_, rfl⟩
      · omega
      · exact AnsO.fail _ _ _ _ _
    have h3' : (l'.length : Int) ≤ 300 := by omega
    have hl300 : l.length ≤ 300 := by have := HLE.out.1; omega
    have S := HST.out hl300
    have h3n : l'.length ≤ 300 := by omega
    go_wp2_with fail
    refine (ssymbol_calls lit g nl gl ol cl ra ca s q false wr hr (hl2.kp K (by simp; exact HFL.out)) (Ra.kp K (by simp; exact fa.out)) HNL.out (by omega) hnlc hca HFL.out.1 fa.out.1).mono ?_
    rintro e w5 ⟨v, x, q1, b1, rfl, hr5, A5, hv, hvl, hvh, K5⟩
    have K45 := K.then (K5.mono (fun y hy => .inl (by simp at hy ⊢; exact .inl hy)))
    have KW5 := (Kp.of [g, r] O12).then K45
    obtain ⟨f, hf, HS⟩ := S.sym h3n A5
    have hB5 := hB.kp K5 (by simpa using Ne.symm hgr')
    have d2 : w5.cell? ⟨g, 2, none⟩ = some (.bool b1) := (hr5.out.cell 2).trans rfl
    have HHS := Lib.hid HS
    have HV := Lib.hid hv
    have hz5 := K45.size
    clear HS hv S A5
    cases b1 with
    | true =>
      go_wp2_with fail
      go_ret
      exact ⟨q1, true, r', cap', l', rfl, hr5, hB5, KW5, hrw, fun _ => HHS.out _ _ _ (AnsO.was _ _ _ _ _), HLE.out.1, by have := HLE.out.2; omega, fun e => (by cases e)⟩
    | false =>
    obtain ⟨rfl, hxn⟩ := HV.out rfl
    by_cases h256 : x = 256
    · subst h256
      go_wp2_with fail
      go_ret
      have HX := HHS.out l' q1 false (by
        first | rw [if_pos rfl] | rw [if_pos trivial]
        exact ⟨fun e => (by cases e), fun _ => ⟨rfl, fun _ => rfl, fun h => absurd h h3⟩⟩)
      exact ⟨q1, false, r', cap', l', rfl, hr5, hB5, KW5, hrw, fun _ => HX, HLE.out.1, by have := HLE.out.2; omega, fun e => ⟨(HX.good e).1, .inr h3n⟩⟩
    have h256' : ((x : Int) == 256) = false := by simp; omega
    by_cases hlt : x < 256
    · have hlt' : (x : Int) < 256 := by omega
      have hu8 : IntKind.u8.wrap (x : Int) = (x : Int) := wr_u8 _ (by omega) (by omega)
      go_wp2_with (at_builtin; go_must (refine wpList_byte (x := x) rfl _ _ rfl rfl hB5.out rfl (by omega) ?_); intro r6 cap6 w6 hby6 hr6 hrl6 K6 hc1 hc2)
      have hg6 : g ≠ r6 := by have := hr5.out.lt; rcases hr6 with e | e <;> omega
      have hr66 := hr5.kp K6 (by simpa using hgr')
      refine ⟨⟨q1, false, r6, cap6, l' ++ [x], by rw [List.length_append]; rfl, hr66, ⟨by rw [List.length_append]; exact hby6⟩, K45.trans K6 (fun y hy => ?_), by omega, hg6, Lib.hid (fun _ => ⟨if l'.length < 300 then packed lit dist f (l' ++ [x]) else De.bad, fun l2 p2 b2 h => HHS.out l2 p2 b2 ?_, by rw [List.length_append]; simp; omega, ?_⟩), Lib.hid ⟨by rw [List.length_append]; have := HLE.out.1; omega, by rw [List.length_append]; simp; have := HLE.out.1; omega, fun _ => by rw [List.length_append]; simp; omega⟩⟩, tokFar_lt hr hr66 (by omega) (fun _ => by omega) (by omega)⟩
      · simp at hy ⊢; omega
      · rw [if_neg h256, if_pos hlt]; exact h
      · by_cases h300 : l'.length < 300
        · rw [if_pos h300]; exact .inl ⟨by rw [List.length_append]; simp; omega, f, by rw [List.length_append]; simp; omega, rfl⟩
        · rw [if_neg h300]; exact .inr ⟨by rw [List.length_append]; simp; omega, rfl⟩
    have hge : 257 ≤ x := by omega
    have hlt' : ¬ (x : Int) < 256 := by omega
    have hl'1 := HLE.out.1
    go_wp2_with fail
    refine (sagain_calls g r' cap' l'.length x gd od nd cd rb cb s q1 l' dist w5 hr5 hB5 rfl h3n hgr' hge (by omega) (hd2.kp K45 (by simp; exact HFD.out)) (Rb.kp K45 (by simp; exact fb.out)) HND.out (by omega) hndc hcb HFD.out.1 fb.out.1).mono ?_
    rintro e w6 ⟨q2, b2, r6, cap6, l2, rfl, hr6, hB6, K6, hr6w, A6, h1, h2, h4⟩
    have hg6 : g ≠ r6 := by have := hr5.out.lt; rcases hr6w with e | e <;> omega
    go_wp2_with fail
    refine ⟨⟨q2, b2, r6, cap6, l2, rfl, hr6, hB6, K45.trans K6 (fun y hy => ?_), by omega, hg6, Lib.hid (fun _ => ?_), Lib.hid ⟨by omega, by omega, fun _ => by omega⟩⟩, tokFar_lt hr hr6 (by omega) (fun e => h4 e) (by omega)⟩
    · simp at hy ⊢; omega
    · cases b2 with
      | false =>
        have := h4 rfl
        refine ⟨if l2.length ≤ 300 then packed lit dist f l2 else De.bad, fun l3 p3 b3 h => HHS.out _ _ _ ?_, by omega, ?_⟩
        · rw [if_neg h256, if_neg hlt]; exact AnsO.bind A6 h
        · by_cases h300 : l2.length ≤ 300
          · rw [if_pos h300]; exact .inl ⟨h300, f, by omega, rfl⟩
          · rw [if_neg h300]; exact .inr ⟨by omega, rfl⟩
      | true =>
        refine ⟨if l2.length ≤ 300 then packed lit dist 302 l2 else De.bad, fun l3 p3 b3 h => HHS.out _ _ _ ?_, by omega, ?_⟩
        · rw [if_neg h256, if_neg hlt]
          refine AnsO.bind A6 ?_
          cases b3 with
          | false => have := (h.good rfl).1; cases this
          | true => exact AnsO.was _ _ _ _ _
        · by_cases h300 : l2.length ≤ 300
          · rw [if_pos h300]; exact .inl ⟨h300, 302, by omega, rfl⟩
          · rw [if_neg h300]; exact .inr ⟨by omega, rfl⟩
end Go.Proofs.YtnadjlejlohgiaaGreatDoor.Wi

