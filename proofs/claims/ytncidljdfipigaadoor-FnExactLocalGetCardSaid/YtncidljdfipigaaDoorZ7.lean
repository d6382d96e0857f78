/- Own texts joined: Sg, Sk, Sl, Rq, WFix, Rg. -/
import Derived.Deep.RegionHeld3
import Derived.Deep.QuietTactic
import Derived.BigQuiet
import Derived.Test.YtncidljdfipigaaDoorZ0
import Derived.Test.YtncidljdfipigaaDoorZ4
import Derived.Test.YtncidljdfipigaaDoorZ5
import Derived.Test.YtncidljdfipigaaDoorZ6
/- The specification's reader takes a length and a distance. Conditions: a reader that is not bad, bytes, lengths and codes. -/
namespace Go.Proofs.YtncidljdfipigaaDoor.Wi
open Go.RowKit Go.Proofs.YtncidljdfipigaaDoor.Mem Go.Proofs.YtncidljdfipigaaDoor.Bt Go.Proofs.YtncidljdfipigaaDoor.Cd Go.Proofs.YtncidljdfipigaaDoor.De
open Go.Proofs.YtncidljdfipigaaDoor.Lz (copy copy_length)
set_option linter.unusedVariables false
set_option linter.unusedSimpArgs false
/-- A row that a call made: so many numbers. -/
def GivesN (w : World) (n : Nat) (l : List Nat) (e : Ending) (w' : World) : Prop := ∃ r cap, e = .returned (.slice (some ⟨r, 0, none⟩) n cap) ∧ RowO w' r 0 3 (i64s l) ∧ n ≤ cap ∧ w.heap.size ≤ r ∧ r < w'.heap.size ∧ On w w'
theorem GivesI.toN {w w' : World} {l : List Nat} {e : Ending} {n : Nat} (h : GivesI w l e w') (hn : l.length = n) : GivesN w n l e w' := by
  obtain ⟨r, cap, rfl, N, h1, h2, O⟩ := h
  subst hn
  exact ⟨r, cap, rfl, N.row.1.toO, N.row.2.2.1, h1, h2, O⟩
theorem slong28 (w : World) : Calls Tryd.prog 122 #[] w (GivesN w 28 longBits) := (slong_calls w).mono fun _ _ h => GivesI.toN h rfl
theorem sback30 (w : World) : Calls Tryd.prog 123 #[] w (GivesN w 30 backBits) := (sback_calls w).mono fun _ _ h => GivesI.toN h rfl
theorem slbase (r cap : Nat) (w : World) (hR : RowO w r 0 3 (i64s longBits)) (hc : 28 ≤ cap) : Calls Tryd.prog 121 #[.slice (some ⟨r, 0, none⟩) 28 cap, .int .i64 3] w (GivesN w 28 longBase) :=
  (sbase_calls longBits r 0 28 cap 3 w hR rfl (by omega) hc (by decide) (by omega)).mono fun _ _ h => GivesI.toN h rfl
theorem sbbase (r cap : Nat) (w : World) (hR : RowO w r 0 3 (i64s backBits)) (hc : 30 ≤ cap) : Calls Tryd.prog 121 #[.slice (some ⟨r, 0, none⟩) 30 cap, .int .i64 1] w (GivesN w 30 backBase) :=
  (sbase_calls backBits r 0 30 cap 1 w hR rfl (by omega) hc (by decide) (by omega)).mono fun _ _ h => GivesI.toN h rfl
/-- What again leaves: as SOut, and more bytes than before where it is not bad. -/
structure AOut (d : Dec (List Nat)) (s : ByteArray) (p : Nat) (b : Bool) (l : List Nat) (g r : Nat) (w : World) (e : Ending) (w' : World) : Prop where mk ::
  out : ∃ (p' : Nat) (b' : Bool) (r' cap' : Nat) (l' : List Nat), e = .returned (.slice (some ⟨r', 0, none⟩) l'.length cap') ∧ SR w' g s p' b' ∧ By w' r' cap' l' ∧ Kp [g, r] w w' ∧ (r' = r ∨ w.heap.size ≤ r') ∧ AnsO d s p b l' p' b' ∧ l.length ≤ l'.length ∧ l'.length ≤ l.length + 60 ∧ (b' = false → l.length < l'.length)
theorem ans_put {l : List Nat} {L B : Nat} {s : ByteArray} {q : Nat} {b : Bool} (h1 : 1 ≤ L) (hok : backOk l.length L B) : AnsO (De.put l L B) s q b (copy l B L) q b := by
  have e : De.put l L B = if (copy l B L).length ≤ 300 then De.ret (copy l B L) else De.bad := by unfold De.put; rw [add_back h1, if_pos hok]
  rw [e]
  refine ⟨fun h => .inl h, fun h => ⟨h, fun h3 => ?_, fun h3 => ?_⟩⟩
  · rw [if_pos h3]; rfl
  · rw [if_neg (by omega)]; rfl
theorem ans_put_not {l : List Nat} {L B : Nat} {s : ByteArray} {q q' : Nat} {b : Bool} {y : List Nat} (h1 : 1 ≤ L) (hno : ¬ backOk l.length L B) : AnsO (De.put l L B) s q b y q' true := by
  have e : De.put l L B = De.bad := by unfold De.put; rw [add_back h1, if_neg hno]
  rw [e]
  exact AnsO.fail _ _ _ _ _
set_option maxRecDepth 100000 in
set_option maxHeartbeats 2000000 in
theorem sagain_calls (g r cap n x gd od nd cd ga ca : Nat) (s : ByteArray) (p : Nat) (l dist : List Nat) (w4 : World) (hw : SR w4 g s p false) (hb : By w4 r cap l) (hn : l.length = n) (hn2 : n ≤ 300) (hgr : g ≠ r) (hx1 : 257 ≤ x) (hx2 : x ≤ 1000)
    (hd : RowO w4 gd od 3 (i64s dist)) (ha : RowO w4 ga 0 3 (i64s (codes dist))) (hnd : dist.length = nd) (hnd2 : nd ≤ 1000) (hcd : nd ≤ cd) (hca : nd ≤ ca) (fd : gd ≠ g) (fa : ga ≠ g) :
    Calls Tryd.prog 151 #[.pointer (some ⟨g, 0, none⟩), .slice (some ⟨r, 0, none⟩) n cap, .int .i64 (x : Int), .slice (some ⟨gd, od, none⟩) nd cd, .slice (some ⟨ga, 0, none⟩) nd ca] w4 fun e w' => AOut (De.again dist l (x - 257)) s p false l g r w4 e w' := by
  have HN := Lib.hid hn
  have HND := Lib.hid hnd
  have HFD := Lib.hid fd
  have HFA := Lib.hid fa
  have hgS := hw.out.lt
  have hrS := hb.lt
  clear hn hnd fd fa
  obtain ⟨k, hk⟩ : ∃ k, x - 257 = k := ⟨_, rfl⟩
  have ek : IntKind.i64.wrap ((x : Int) - 257) = (k : Int) := by rw [IntKind.wrap_i64]; omega
  have hk1 : k ≤ 1000 := by omega
  rw [hk]
  clear hk
  go_enter Tryd.func151, Tryd.ntmps151
  go_wp2_with fail
  refine (slong28 w4).mono ?_
  rintro e w5 ⟨rA, cA, rfl, RA, hcA, hA1, hA2, O5⟩
  by_cases hk28 : 28 ≤ k
  · have hk28' : (28 : Int) ≤ k := by omega
    have hw5 := hw.on O5
    have fr : ∀ i, w5.frozen? ⟨g, i, none⟩ = false := hw5.out.frozen
    have c2 := (hw5.out.cell 2).trans rfl
    go_wp2_with fail
    go_ret
    refine ⟨p, true, r, cap, l, by rw [HN.out]; rfl, ⟨hw5.out.set 2 (.bool true), hw5.le, hw5.sz⟩, (hb.on O5).kp ((Kp.refl [g] _).set (.inl (by simp)) _) (by simpa using Ne.symm hgr), (Kp.of _ O5).set (.inl (by simp)) _, .inl rfl, ?_, Nat.le_refl _, by omega, fun e => (by cases e)⟩
    unfold De.again
    rw [if_pos hk28]
    exact AnsO.fail _ _ _ _ _
  have hk28' : ¬ (28 : Int) ≤ k := by omega
  have hk0 : (k : Int) < 28 := by omega
  have hcL := fun W r3 (R : RowO W r3 0 3 (i64s longBase)) => R.cell (i64s_get (show k < longBase.length from by rw [show longBase.length = 28 from rfl]; omega))
  have hcLb := fun W r3 (R : RowO W r3 0 3 (i64s longBits)) => R.cell (i64s_get (show k < longBits.length from by rw [show longBits.length = 28 from rfl]; omega))
  simp only [Nat.zero_add] at hcL hcLb
  have hyl : longBits.getD k 0 ≤ 5 := by
    have : ∀ k, k < 28 → longBits.getD k 0 ≤ 5 := by decide
    exact this k (by omega)
  have hxl : longBase.getD k 0 ≤ 300 ∧ 3 ≤ longBase.getD k 0 := by
    have : ∀ k, k < 28 → longBase.getD k 0 ≤ 300 ∧ 3 ≤ longBase.getD k 0 := by decide
    exact this k (by omega)
  obtain ⟨xl, hxl0⟩ : ∃ xl, longBase.getD k 0 = xl := ⟨_, rfl⟩
  obtain ⟨yl, hyl0⟩ : ∃ yl, longBits.getD k 0 = yl := ⟨_, rfl⟩
  rw [hxl0] at hcL hxl
  rw [hyl0] at hcLb hyl
  have HXL0 := Lib.hid hxl0
  have HYL0 := Lib.hid hyl0
  have HCL := Lib.hid hcL
  have HCLB := Lib.hid hcLb
  have hga := fun W h => snum_calls g yl s p false W h (by omega)
  have hv1 := numAt_lt s p yl
  have hp5 : 2 ^ yl ≤ 2 ^ 5 := Nat.pow_le_pow_right (by omega) hyl
  have A1 := Lib.hid (ans_num (n := yl) (b := false) hw.le)
  have HGA := Lib.hid hga
  clear hxl0 hyl0 hcL hcLb hga
  generalize hnv : numAt s p yl = nv at *
  obtain ⟨Lx, hLx⟩ : ∃ Lx, xl + nv = Lx := ⟨_, rfl⟩
  have ea : IntKind.i64.wrap ((xl : Int) + (nv : Int)) = (Lx : Int) := by rw [IntKind.wrap_i64]; omega
  have hLx1 : 1 ≤ Lx := by omega
  have hLx2 : Lx ≤ 1000 := by omega
  have HLX := Lib.hid hLx
  have HSR := Lib.hid hw
  clear hnv hLx
  go_wp2_with fail
  have HR5 := Lib.hid (hw.on O5)
  have hb5 := hb.on O5
  have hd5 := hd.on O5
  have ha5 := ha.on O5
  have hz5 := O5.size
  have hgS5 : g < w5.heap.size := by omega
  have hrS5 : r < w5.heap.size := by omega
  clear hA1 hA2 hcA RA hgS hrS hw hb hd ha
  have hgS := hgS5
  refine wp_region_held_drew (S := fun W => Kp [g] w5 W) (by kernel_rfl) (Kp.refl _ _).drew (fun hHeld => ?_)
  have Ow0 := (On.refl w5).drew
  refine wpAnyH_take (i := 2) (oi := _) (v := ?_) rfl (by kernel_rfl) (by kernel_rfl) (by kernel_rfl) (fun _ _ _ h => h) (Or.inl ⟨by rfl, ?_⟩) (by assumption) ?_
  rotate_left
  · intro w hSw
    go_simp
    first | done | with_reducible rfl
  try simp only [Act.put, List.setIfInBounds_toArray, List.set_cons_zero, List.set_cons_succ]
  refine wpAnyH_take (i := 5) (oi := _) (v := ?_) rfl (by kernel_rfl) (by kernel_rfl) (by kernel_rfl) (fun _ _ _ h => h) (Or.inl ⟨by rfl, ?_⟩) (by assumption) ?_
  rotate_left
  · intro w hSw
    go_simp
    first | done | with_reducible rfl
  try simp only [Act.put, List.setIfInBounds_toArray, List.set_cons_zero, List.set_cons_succ]
  refine wpAnyH_take (i := 7) (oi := _) (v := ?_) rfl (by kernel_rfl) (by kernel_rfl) (by kernel_rfl) (fun _ _ _ h => h) (Or.inl ⟨by rfl, ?_⟩) (by assumption) ?_
  rotate_left
  · intro w hSw
    go_simp
    first | done | with_reducible rfl
  try simp only [Act.put, List.setIfInBounds_toArray, List.set_cons_zero, List.set_cons_succ]
  refine wpAnyH_strong (S' := fun W => Kp [g] w5.drew W) (fun W h => Kp.then (Kp.of [g] Ow0) h) ?_
  have hHeldN : (fun W => Kp [g] w5.drew W) w5.drew := Kp.refl _ _
  generalize w5.drew = wD at *
  refine wpAnyH_ready (rs := [0]) (by kernel_rfl) (by simp) ?_
  refine AllReadyH.cons (o := _) rfl (fun K hK => ?_) AllReadyH.nil
  go_simp
  refine (slong28 _).mono ?_
  rintro e wA ⟨rA, cA, rfl, RA, hcA, hA1, hA2, OA⟩
  have OwA := Ow0.call OA
  refine hK.out _ _ (Kp.of [g] OA) (fun hHeld => ?_)
  clear hK K
  try simp only [Act.put, List.setIfInBounds_toArray, List.set_cons_zero, List.set_cons_succ]
  refine wpAnyH_strong (S' := fun W => Kp [g] wA W) (fun W h => Kp.then (Kp.of [g] OA) h) ?_
  have hHeldN : (fun W => Kp [g] wA W) wA := Kp.refl _ _
  refine wpAnyH_ready (rs := [1]) (by kernel_rfl) (by simp) ?_
  refine AllReadyH.cons (o := _) rfl (fun K hK => ?_) AllReadyH.nil
  go_simp
  refine (slbase rA cA wA RA hcA).mono ?_
  rintro e wB ⟨rB, cB, rfl, RB, hcB, hB1, hB2, OB⟩
  have OwB := OwA.call OB
  have CB : ∀ W, Kp [g] wB W → W.cell? ⟨rB, k, none⟩ = some (.int .i64 (xl : Int)) := fun W h => (h.cell RB.lt (show rB ∉ [g] by simp; have := hgS; have := OwA.size; omega)).trans (HCL.out wB rB RB)
  refine hK.out _ _ (Kp.of [g] OB) (fun hHeld => ?_)
  clear hK K
  try simp only [Act.put, List.setIfInBounds_toArray, List.set_cons_zero, List.set_cons_succ]
  refine wpAnyH_strong (S' := fun W => Kp [g] wB W) (fun W h => Kp.then (Kp.of [g] OB) h) ?_
  have hHeldN : (fun W => Kp [g] wB W) wB := Kp.refl _ _
  refine wpAnyH_take (i := 3) (oi := _) (v := ?_) rfl (by kernel_rfl) (by kernel_rfl) (by kernel_rfl) (fun _ _ _ h => h) (Or.inl ⟨by rfl, ?_⟩) (by assumption) ?_
  rotate_left
  · intro w hSw
    go_simp
    first | done | with_reducible rfl
  try simp only [Act.put, List.setIfInBounds_toArray, List.set_cons_zero, List.set_cons_succ]
  refine wpAnyH_take (i := 4) (oi := _) (v := ?_) rfl (by kernel_rfl) (by kernel_rfl) (by kernel_rfl) (fun _ _ _ h => h) (Or.inl ⟨by rfl, ?_⟩) (by assumption) ?_
  rotate_left
  · intro w hSw
    go_simp
    first | done | with_reducible rfl
  try simp only [Act.put, List.setIfInBounds_toArray, List.set_cons_zero, List.set_cons_succ]
  refine wpAnyH_ready (rs := [6]) (by kernel_rfl) (by simp) ?_
  refine AllReadyH.cons (o := _) rfl (fun K hK => ?_) AllReadyH.nil
  go_simp
  refine (slong28 _).mono ?_
  rintro e wC ⟨rC, cC, rfl, RC, hcC, hC1, hC2, OC⟩
  have OwC := OwB.call OC
  have CC : ∀ W, Kp [g] wC W → W.cell? ⟨rC, k, none⟩ = some (.int .i64 (yl : Int)) := fun W h => (h.cell RC.lt (show rC ∉ [g] by simp; have := hgS; have := OwB.size; omega)).trans (HCLB.out wC rC RC)
  refine hK.out _ _ (Kp.of [g] OC) (fun hHeld => ?_)
  clear hK K
  try simp only [Act.put, List.setIfInBounds_toArray, List.set_cons_zero, List.set_cons_succ]
  refine wpAnyH_strong (S' := fun W => Kp [g] wC W) (fun W h => Kp.then (Kp.of [g] OC) h) ?_
  have hHeldN : (fun W => Kp [g] wC W) wC := Kp.refl _ _
  refine wpAnyH_take (i := 8) (oi := _) (v := ?_) rfl (by kernel_rfl) (by kernel_rfl) (by kernel_rfl) (fun _ _ _ h => h) (Or.inl ⟨by rfl, ?_⟩) (by assumption) ?_
  rotate_left
  · intro w hSw
    go_simp
    first | done | with_reducible rfl
  try simp only [Act.put, List.setIfInBounds_toArray, List.set_cons_zero, List.set_cons_succ]
  refine wpAnyH_take (i := 9) (oi := _) (v := ?_) rfl (by kernel_rfl) (by kernel_rfl) (by kernel_rfl) (fun _ _ _ h => h) (Or.inl ⟨by rfl, ?_⟩) (by assumption) ?_
  rotate_left
  · intro w hSw
    go_simp
    first | done | with_reducible rfl
  try simp only [Act.put, List.setIfInBounds_toArray, List.set_cons_zero, List.set_cons_succ]
  refine wpAnyH_ready (rs := [10]) (by kernel_rfl) (by simp) ?_
  refine AllReadyH.cons (o := _) rfl (fun K hK => ?_) AllReadyH.nil
  go_simp
  refine (HGA.out _ (HR5.out.on OwC)).mono ?_
  rintro e wE ⟨rfl, hrE, KE⟩
  have KwE : Kp [g] w5 wE := (Kp.of [g] OwC).then KE
  refine hK.out _ _ (KE) (fun hHeld => ?_)
  clear hK K
  try simp only [Act.put, List.setIfInBounds_toArray, List.set_cons_zero, List.set_cons_succ]
  refine wpAnyH_strong (S' := fun W => Kp [g] wE W) (fun W h => Kp.then (KE) h) ?_
  have hHeldN : (fun W => Kp [g] wE W) wE := Kp.refl _ _
  refine wpAnyH_take (i := 11) (oi := _) (v := ?_) rfl (by kernel_rfl) (by kernel_rfl) (by kernel_rfl) (fun _ _ _ h => h) (Or.inl ⟨by rfl, ?_⟩) (by assumption) ?_
  rotate_left
  · intro w hSw
    go_simp
    first | done | with_reducible rfl
  try simp only [Act.put, List.setIfInBounds_toArray, List.set_cons_zero, List.set_cons_succ]
  refine wpAnyH_take (i := 12) (oi := _) (v := ?_) rfl (by kernel_rfl) (by kernel_rfl) (by kernel_rfl) (fun _ _ _ h => h) (Or.inl ⟨by rfl, ?_⟩) (by assumption) ?_
  rotate_left
  · intro w hSw
    go_simp
    first | done | with_reducible rfl
  try simp only [Act.put, List.setIfInBounds_toArray, List.set_cons_zero, List.set_cons_succ]
  refine wpAnyH_done (by kernel_rfl) ?_ _
  clear hHeld hHeldN CB CC RA RB RC hcA hcB hcC hA1 hA2 hB1 hB2 hC1 hC2 OA OB OC OwA OwB OwC Ow0 KE
  go_wp2_with fail
  have bE := hb5.kp KwE (by simpa using Ne.symm hgr)
  have dE := hd5.kp KwE (by simpa using HFD.out)
  have aE := ha5.kp KwE (by simpa using HFA.out)
  have hqE := hrE.le
  generalize hq1 : min (p + yl) (8 * s.size) = q1 at *
  generalize hb1 : (false || decide (8 * s.size < p + yl)) = b1 at *
  clear hq1 hb1 HGA HCL HCLB
  refine (ssymbol_calls dist g nd gd od cd ga ca s q1 b1 wE hrE dE aE HND.out hnd2 hcd hca HFD.out HFA.out).mono ?_
  rintro e w6 ⟨v, j, q2, b2, rfl, hr6, A2, hv, hvl, hvh, K6⟩
  have HAG : RowKit.Hid (∀ l' p' b', AnsO (if 30 ≤ j then De.bad else next (num (backBits.getD j 0)) fun y => De.put l Lx (backBase.getD j 0 + y)) s q2 b2 l' p' b' → AnsO (De.again dist l k) s p false l' p' b') := Lib.hid (fun l' p' b' h => by
    unfold De.again
    rw [if_neg hk28, HYL0.out, HXL0.out]
    refine AnsO.next A1.out ?_
    rw [HLX.out]
    exact AnsO.next A2 h)
  have HA2 := Lib.hid A2
  clear A2 hb5 hd5 ha5
  have b6 := bE.kp K6 (by simpa using Ne.symm hgr)
  have K56 := KwE.then K6
  have c2 : w6.cell? ⟨g, 2, none⟩ = some (.bool b2) := (hr6.out.cell 2).trans rfl
  have fr : ∀ i, w6.frozen? ⟨g, i, none⟩ = false := hr6.out.frozen
  have KW : Kp [g, r] w4 w6 := (Kp.of _ O5).then (K56.mono (fun y hy => .inl (by simp at hy ⊢; exact .inl hy)))
  have hz4 := KW.size
  have h46 := K56.size
  have hgS6 : g < w6.heap.size := by omega
  cases b2 with
  | true =>
    have HV := Lib.hid hv
    clear hv
    go_wp2_with fail
    go_ret
    exact ⟨q2, true, r, cap, l, by rw [HN.out]; rfl, ⟨hr6.out.set 2 (.bool true), hr6.le, hr6.sz⟩, b6.kp ((Kp.refl [g] _).set (.inl (by simp)) _) (by simpa using Ne.symm hgr), KW.set (.inl (by simp)) _, .inl rfl, HAG.out _ _ _ (AnsO.was _ _ _ _ _), Nat.le_refl _, by omega, fun e => (by cases e)⟩
  | false =>
    obtain ⟨rfl, hjn⟩ := hv rfl
    clear hv
    go_wp2_with fail
    refine (sback30 w6).mono ?_
    rintro e w7 ⟨rA, cA, rfl, RA, hcA, hA1, hA2, O7⟩
    have hr7 := hr6.on O7
    have b7 := b6.on O7
    have KW7 := KW.then (Kp.of _ O7)
    have hz7 := O7.size
    clear RA hcA hA1 hA2
    by_cases hj30 : 30 ≤ j
    · have hj30' : (30 : Int) ≤ j := by omega
      have c7 : w7.cell? ⟨g, 2, none⟩ = some (.bool false) := (hr7.out.cell 2).trans rfl
      have fr7 : ∀ i, w7.frozen? ⟨g, i, none⟩ = false := hr7.out.frozen
      go_wp2_with fail
      go_ret
      refine ⟨q2, true, r, cap, l, by rw [HN.out]; rfl, ⟨hr7.out.set 2 (.bool true), hr7.le, hr7.sz⟩, b7.kp ((Kp.refl [g] _).set (.inl (by simp)) _) (by simpa using Ne.symm hgr), KW7.set (.inl (by simp)) _, .inl rfl, HAG.out _ _ _ ?_, Nat.le_refl _, by omega, fun e => (by cases e)⟩
      rw [if_pos hj30]
      exact AnsO.fail _ _ _ _ _
    have hj30' : ¬ (30 : Int) ≤ j := by omega
    have hj0 : (j : Int) < 30 := by omega
    have hcB := fun W r3 (R : RowO W r3 0 3 (i64s backBase)) => R.cell (i64s_get (show j < backBase.length from by rw [show backBase.length = 30 from rfl]; omega))
    have hcBb := fun W r3 (R : RowO W r3 0 3 (i64s backBits)) => R.cell (i64s_get (show j < backBits.length from by rw [show backBits.length = 30 from rfl]; omega))
    simp only [Nat.zero_add] at hcB hcBb
    have hyb : backBits.getD j 0 ≤ 13 := by
      have : ∀ k, k < 30 → backBits.getD k 0 ≤ 13 := by decide
      exact this j (by omega)
    have hxb : backBase.getD j 0 ≤ 40000 := by
      have : ∀ k, k < 30 → backBase.getD k 0 ≤ 40000 := by decide +kernel
      exact this j (by omega)
    obtain ⟨xb, hxb0⟩ : ∃ xb, backBase.getD j 0 = xb := ⟨_, rfl⟩
    obtain ⟨yb, hyb0⟩ : ∃ yb, backBits.getD j 0 = yb := ⟨_, rfl⟩
    rw [hxb0] at hcB hxb HAG
    rw [hyb0] at hcBb hyb HAG
    have HCB := Lib.hid hcB
    have HCBB := Lib.hid hcBb
    have hv2 := numAt_lt s q2 yb
    have hp13 : 2 ^ yb ≤ 2 ^ 13 := Nat.pow_le_pow_right (by omega) hyb
    have A8 := Lib.hid (ans_num (n := yb) (b := false) hr7.le)
    have HGB := Lib.hid (fun W h => snum_calls g yb s q2 false W h (by omega))
    clear hxb0 hyb0 hcB hcBb
    generalize hnv2 : numAt s q2 yb = nv2 at *
    obtain ⟨Bx, hBx⟩ : ∃ Bx, xb + nv2 = Bx := ⟨_, rfl⟩
    have eb : IntKind.i64.wrap ((xb : Int) + (nv2 : Int)) = (Bx : Int) := by rw [IntKind.wrap_i64]; omega
    have HBX := Lib.hid hBx
    have hBl : Bx ≤ 100000 := by omega
    clear hnv2 hBx ea
    have HR7 := Lib.hid hr7
    have hgS : g < w7.heap.size := by omega
    clear c2 fr
    go_wp2_with fail
    refine wp_region_held_drew (S := fun W => Kp [g] w7 W) (by kernel_rfl) (Kp.refl _ _).drew (fun hHeld => ?_)
    have Ow0 := (On.refl w7).drew
    refine wpAnyH_take (i := 2) (oi := _) (v := ?_) rfl (by kernel_rfl) (by kernel_rfl) (by kernel_rfl) (fun _ _ _ h => h) (Or.inl ⟨by rfl, ?_⟩) (by assumption) ?_
    rotate_left
    · intro w hSw
      go_simp
      first | done | with_reducible rfl
    try simp only [Act.put, List.setIfInBounds_toArray, List.set_cons_zero, List.set_cons_succ]
    refine wpAnyH_take (i := 5) (oi := _) (v := ?_) rfl (by kernel_rfl) (by kernel_rfl) (by kernel_rfl) (fun _ _ _ h => h) (Or.inl ⟨by rfl, ?_⟩) (by assumption) ?_
    rotate_left
    · intro w hSw
      go_simp
      first | done | with_reducible rfl
    try simp only [Act.put, List.setIfInBounds_toArray, List.set_cons_zero, List.set_cons_succ]
    refine wpAnyH_take (i := 7) (oi := _) (v := ?_) rfl (by kernel_rfl) (by kernel_rfl) (by kernel_rfl) (fun _ _ _ h => h) (Or.inl ⟨by rfl, ?_⟩) (by assumption) ?_
    rotate_left
    · intro w hSw
      go_simp
      first | done | with_reducible rfl
    try simp only [Act.put, List.setIfInBounds_toArray, List.set_cons_zero, List.set_cons_succ]
    refine wpAnyH_strong (S' := fun W => Kp [g] w7.drew W) (fun W h => Kp.then (Kp.of [g] Ow0) h) ?_
    have hHeldN : (fun W => Kp [g] w7.drew W) w7.drew := Kp.refl _ _
    generalize w7.drew = wD at *
    refine wpAnyH_ready (rs := [0]) (by kernel_rfl) (by simp) ?_
    refine AllReadyH.cons (o := _) rfl (fun K hK => ?_) AllReadyH.nil
    go_simp
    refine (sback30 _).mono ?_
    rintro e wA ⟨rA, cA, rfl, RA, hcA, hA1, hA2, OA⟩
    have OwA := Ow0.call OA
    refine hK.out _ _ (Kp.of [g] OA) (fun hHeld => ?_)
    clear hK K
    try simp only [Act.put, List.setIfInBounds_toArray, List.set_cons_zero, List.set_cons_succ]
    refine wpAnyH_strong (S' := fun W => Kp [g] wA W) (fun W h => Kp.then (Kp.of [g] OA) h) ?_
    have hHeldN : (fun W => Kp [g] wA W) wA := Kp.refl _ _
    refine wpAnyH_ready (rs := [1]) (by kernel_rfl) (by simp) ?_
    refine AllReadyH.cons (o := _) rfl (fun K hK => ?_) AllReadyH.nil
    go_simp
    refine (sbbase rA cA wA RA hcA).mono ?_
    rintro e wB ⟨rB, cB, rfl, RB, hcB, hB1, hB2, OB⟩
    have OwB := OwA.call OB
    have CB : ∀ W, Kp [g] wB W → W.cell? ⟨rB, j, none⟩ = some (.int .i64 (xb : Int)) := fun W h => (h.cell RB.lt (show rB ∉ [g] by simp; have := hgS; have := OwA.size; omega)).trans (HCB.out wB rB RB)
    refine hK.out _ _ (Kp.of [g] OB) (fun hHeld => ?_)
    clear hK K
    try simp only [Act.put, List.setIfInBounds_toArray, List.set_cons_zero, List.set_cons_succ]
    refine wpAnyH_strong (S' := fun W => Kp [g] wB W) (fun W h => Kp.then (Kp.of [g] OB) h) ?_
    have hHeldN : (fun W => Kp [g] wB W) wB := Kp.refl _ _
    refine wpAnyH_take (i := 3) (oi := _) (v := ?_) rfl (by kernel_rfl) (by kernel_rfl) (by kernel_rfl) (fun _ _ _ h => h) (Or.inl ⟨by rfl, ?_⟩) (by assumption) ?_
    rotate_left
    · intro w hSw
      go_simp
      first | done | with_reducible rfl
    try simp only [Act.put, List.setIfInBounds_toArray, List.set_cons_zero, List.set_cons_succ]
    refine wpAnyH_take (i := 4) (oi := _) (v := ?_) rfl (by kernel_rfl) (by kernel_rfl) (by kernel_rfl) (fun _ _ _ h => h) (Or.inl ⟨by rfl, ?_⟩) (by assumption) ?_
    rotate_left
    · intro w hSw
      go_simp
      first | done | with_reducible rfl
    try simp only [Act.put, List.setIfInBounds_toArray, List.set_cons_zero, List.set_cons_succ]
    refine wpAnyH_ready (rs := [6]) (by kernel_rfl) (by simp) ?_
    refine AllReadyH.cons (o := _) rfl (fun K hK => ?_) AllReadyH.nil
    go_simp
    refine (sback30 _).mono ?_
    rintro e wC ⟨rC, cC, rfl, RC, hcC, hC1, hC2, OC⟩
    have OwC := OwB.call OC
    have CC : ∀ W, Kp [g] wC W → W.cell? ⟨rC, j, none⟩ = some (.int .i64 (yb : Int)) := fun W h => (h.cell RC.lt (show rC ∉ [g] by simp; have := hgS; have := OwB.size; omega)).trans (HCBB.out wC rC RC)
    refine hK.out _ _ (Kp.of [g] OC) (fun hHeld => ?_)
    clear hK K
    try simp only [Act.put, List.setIfInBounds_toArray, List.set_cons_zero, List.set_cons_succ]
    refine wpAnyH_strong (S' := fun W => Kp [g] wC W) (fun W h => Kp.then (Kp.of [g] OC) h) ?_
    have hHeldN : (fun W => Kp [g] wC W) wC := Kp.refl _ _
    refine wpAnyH_take (i := 8) (oi := _) (v := ?_) rfl (by kernel_rfl) (by kernel_rfl) (by kernel_rfl) (fun _ _ _ h => h) (Or.inl ⟨by rfl, ?_⟩) (by assumption) ?_
    rotate_left
    · intro w hSw
      go_simp
      first | done | with_reducible rfl
    try simp only [Act.put, List.setIfInBounds_toArray, List.set_cons_zero, List.set_cons_succ]
    refine wpAnyH_take (i := 9) (oi := _) (v := ?_) rfl (by kernel_rfl) (by kernel_rfl) (by kernel_rfl) (fun _ _ _ h => h) (Or.inl ⟨by rfl, ?_⟩) (by assumption) ?_
    rotate_left
    · intro w hSw
      go_simp
      first | done | with_reducible rfl
    try simp only [Act.put, List.setIfInBounds_toArray, List.set_cons_zero, List.set_cons_succ]
    refine wpAnyH_ready (rs := [10]) (by kernel_rfl) (by simp) ?_
    refine AllReadyH.cons (o := _) rfl (fun K hK => ?_) AllReadyH.nil
    go_simp
    refine (HGB.out _ (HR7.out.on OwC)).mono ?_
    rintro e wE ⟨rfl, hrE, KE⟩
    have KwE : Kp [g] w7 wE := (Kp.of [g] OwC).then KE
    refine hK.out _ _ (KE) (fun hHeld => ?_)
    clear hK K
    try simp only [Act.put, List.setIfInBounds_toArray, List.set_cons_zero, List.set_cons_succ]
    refine wpAnyH_strong (S' := fun W => Kp [g] wE W) (fun W h => Kp.then (KE) h) ?_
    have hHeldN : (fun W => Kp [g] wE W) wE := Kp.refl _ _
    refine wpAnyH_take (i := 11) (oi := _) (v := ?_) rfl (by kernel_rfl) (by kernel_rfl) (by kernel_rfl) (fun _ _ _ h => h) (Or.inl ⟨by rfl, ?_⟩) (by assumption) ?_
    rotate_left
    · intro w hSw
      go_simp
      first | done | with_reducible rfl
    try simp only [Act.put, List.setIfInBounds_toArray, List.set_cons_zero, List.set_cons_succ]
    refine wpAnyH_take (i := 12) (oi := _) (v := ?_) rfl (by kernel_rfl) (by kernel_rfl) (by kernel_rfl) (fun _ _ _ h => h) (Or.inl ⟨by rfl, ?_⟩) (by assumption) ?_
    rotate_left
    · intro w hSw
      go_simp
      first | done | with_reducible rfl
    try simp only [Act.put, List.setIfInBounds_toArray, List.set_cons_zero, List.set_cons_succ]
    refine wpAnyH_done (by kernel_rfl) ?_ _
    clear hHeld hHeldN CB CC RA RB RC hcA hcB hcC hA1 hA2 hB1 hB2 hC1 hC2 OA OB OC OwA OwB OwC Ow0 KE
    go_wp2_with fail
    have bE2 := b7.kp KwE (by simpa using Ne.symm hgr)
    have KWE := KW7.then (KwE.mono (fun y hy => .inl (by simp at hy ⊢; exact .inl hy)))
    generalize hq3 : min (q2 + yb) (8 * s.size) = q3 at *
    generalize hb3 : (false || decide (8 * s.size < q2 + yb)) = b3 at *
    have HPUT : RowKit.Hid (∀ l' p' b', AnsO (De.put l Lx Bx) s q3 b3 l' p' b' → AnsO (De.again dist l k) s p false l' p' b') := Lib.hid (fun l' p' b' h => HAG.out l' p' b' (by
      rw [if_neg hj30]
      refine AnsO.next A8.out ?_
      rw [HBX.out]; exact h))
    clear HAG A8 HGB HCB HCBB eb hq3 hb3
    have hzE := KWE.size
    refine (sadd_calls r cap n Lx Bx l wE bE2 HN.out (by omega) hLx1 (by omega) hBl).mono ?_
    rintro e w9 (⟨hok, r9, cap9, rfl, hB9, M9⟩ | ⟨hno, rfl, O9⟩)
    · have hr9 := hrE.kp M9.kp (by simpa using hgr)
      have K49 : Kp [g, r] w4 w9 := KWE.trans M9.kp (fun y hy => by simp at hy ⊢; omega)
      have hcl := copy_length l Bx Lx
      rw [HN.out] at hcl
      have HCL := Lib.hid hcl
      have hok60 : Lx ≤ 60 := hok.2.1
      clear hcl
      go_wp2_with fail
      go_ret
      refine ⟨q3, b3, r9, cap9, copy l Bx Lx, by rw [HCL.out]; rfl, hr9, hB9, K49, ?_, HPUT.out _ _ _ (ans_put hLx1 (by rw [HN.out]; exact hok)), by rw [HCL.out, HN.out]; omega, by rw [HCL.out, HN.out]; omega, fun _ => (by rw [HCL.out, HN.out]; omega)⟩
      rcases M9.at_ with e | e
      · exact .inl e
      · right; omega
    · have hr9 := hrE.on O9
      have c9 : w9.cell? ⟨g, 2, none⟩ = some (.bool b3) := (hr9.out.cell 2).trans rfl
      have fr9 : ∀ i, w9.frozen? ⟨g, i, none⟩ = false := hr9.out.frozen
      go_wp2_with fail
      go_ret
      exact ⟨q3, true, r, cap, l, by rw [HN.out]; rfl, ⟨hr9.out.set 2 (.bool true), hr9.le, hr9.sz⟩, (bE2.on O9).kp ((Kp.refl [g] _).set (.inl (by simp)) _) (by simpa using Ne.symm hgr), (KWE.then (Kp.of _ O9)).set (.inl (by simp)) _, .inl rfl, HPUT.out _ _ _ (ans_put_not hLx1 (by rw [HN.out]; exact hno)), Nat.le_refl _, by omega, fun e => (by cases e)⟩
end Go.Proofs.YtncidljdfipigaaDoor.Wi

/- The specification's reader takes tokens up to the end. Conditions: a reader, bytes, lengths. -/
namespace Go.Proofs.YtncidljdfipigaaDoor.Wi
open Go.RowKit Go.Proofs.YtncidljdfipigaaDoor.Mem Go.Proofs.YtncidljdfipigaaDoor.Bt Go.Proofs.YtncidljdfipigaaDoor.Cd Go.Proofs.YtncidljdfipigaaDoor.De
set_option linter.unusedVariables false
set_option linter.unusedSimpArgs false
theorem AnsO.bind {d : Dec (List Nat)} {k : List Nat → Dec (List Nat)} {s : ByteArray} {p p1 p2 : Nat} {b b1 b2 : Bool} {l1 y : List Nat} (h : AnsO d s p b l1 p1 b1) (h2 : AnsO (if l1.length ≤ 300 then k l1 else De.bad) s p1 b1 y p2 b2) : AnsO (De.next d k) s p b y p2 b2 := by
  by_cases hl : l1.length ≤ 300
  · rw [if_pos hl] at h2
    refine ⟨fun e => ?_, fun e => ?_⟩
    · cases hb1 : b1 with
      | true => exact (h.bad hb1).imp id (fun a => next_none a)
      | false =>
        obtain ⟨a1, a2, _⟩ := h.good hb1
        rcases h2.bad e with c | c
        · rw [hb1] at c; cases c
        · exact .inr (by rw [next_some (a2 hl)]; exact c)
    · obtain ⟨c1, c2, c3⟩ := h2.good e
      obtain ⟨a1, a2, _⟩ := h.good c1
      exact ⟨a1, fun h3 => by rw [next_some (a2 hl)]; exact c2 h3, fun h3 => by rw [next_some (a2 hl)]; exact c3 h3⟩
  · rw [if_neg hl] at h2
    refine ⟨fun e => ?_, fun e => ?_⟩
    · cases hb1 : b1 with
      | true => exact (h.bad hb1).imp id (fun a => next_none a)
      | false => exact .inr (next_none ((h.good hb1).2.2 (by omega)))
    · obtain ⟨c1, c2, c3⟩ := h2.good e
      obtain ⟨a1, _, a3⟩ := h.good c1
      exact ⟨a1, fun h3 => (by have := c2 h3; cases this), fun _ => next_none (a3 (by omega))⟩
/-- How far the loop over tokens still may go. -/
def tokFar (g : Nat) (o : Value) (w : World) : Nat := (match o with | .slice _ n _ => 2 * (1000 - n) | _ => 0) + (match w.cell? ⟨g, 2, none⟩ with | some (.bool false) => 1 | _ => 0)
theorem tokFar_lt {g n n' q q' : Nat} {s : ByteArray} {a a' : Option Addr} {c c' : Nat} {b' : Bool} {w w' : World} (h : SR w g s q false) (h' : SR w' g s q' b') (hn : n ≤ n') (hb : b' = false → n < n') (hle : n' ≤ 900) : tokFar g (.slice a' n' c') w' < tokFar g (.slice a n c) w := by
  unfold tokFar
  rw [(h.out.cell 2).trans rfl, (h'.out.cell 2).trans rfl]
  cases b' with
  | false =>
    have := hb rfl
    show 2 * (1000 - n') + 1 < 2 * (1000 - n) + 1
    omega
  | true =>
    show 2 * (1000 - n') + 0 < 2 * (1000 - n) + 1
    omega
set_option maxRecDepth 100000 in
set_option maxHeartbeats 2000000 in
theorem srdtoks_calls (g r cap n gl ol nl cl gd od nd cd : Nat) (s : ByteArray) (p : Nat) (b : Bool) (l lit dist : List Nat) (w : World) (hw : SR w g s p b) (hb : By w r cap l) (hn : l.length = n) (hgr : g ≠ r)
    (hl : RowO w gl ol 3 (i64s lit)) (hd : RowO w gd od 3 (i64s dist)) (hnl : lit.length = nl) (hnd : dist.length = nd) (hnlc : nl ≤ cl) (hndc : nd ≤ cd) (hlen : nl ≤ 1000) (hlen2 : nd ≤ 1000) (fl : gl ≠ g ∧ gl ≠ r) (fd : gd ≠ g ∧ gd ≠ r) :
    Calls Tryd.prog 136 #[.pointer (some ⟨g, 0, none⟩), .slice (some ⟨r, 0, none⟩) n cap, .slice (some ⟨gl, ol, none⟩) nl cl, .slice (some ⟨gd, od, none⟩) nd cd] w fun e w' => SOut (packed lit dist 302 l) s p b l g r w e w' := by
  have HN := Lib.hid hn
  have HNL := Lib.hid hnl
  have HND := Lib.hid hnd
  have HFL := Lib.hid fl
  have HFD := Lib.hid fd
  have hgl := hw.out.lt
  have hrl := hb.lt
  have hll := hl.lt
  have hdl := hd.lt
  clear hn hnl hnd fl fd
  go_enter Tryd.func136, Tryd.ntmps136
  go_wp2_with fail
  refine (scodes_calls lit gl ol nl cl w hl HNL.out (by omega) hnlc).mono ?_
  rintro e w1 ⟨ra, ca, rfl, Na, ha1, ha2, O1⟩
  have hcl : (codes lit).length = nl := by rw [codes_length]; exact HNL.out
  rw [hcl] at Na ⊢
  go_wp2_with fail
  refine (scodes_calls dist gd od nd cd w1 (hd.on O1) HND.out (by omega) hndc).mono ?_
  rintro e w2 ⟨rb, cb, rfl, Nb, hb1, hb2, O2⟩
  have hcd : (codes dist).length = nd := by rw [codes_length]; exact HND.out
  rw [hcd] at Nb ⊢
  have O12 := O1.call O2
  have Na2 := Na.on O2
  have hca : nl ≤ ca := Na.row.2.2.1
  have hcb : nd ≤ cb := Nb.row.2.2.1
  have Ra := Na2.row.1.toO
  have Rb := Nb.row.1.toO
  have hz1 := O1.size
  have hz2 := O2.size
  have hl2 := hl.on O12
  have hd2 := hd.on O12
  have hw2 := hw.on O12
  have hb2' := hb.on O12
  have fa : RowKit.Hid (ra ≠ g ∧ ra ≠ r) := Lib.hid ⟨by omega, by omega⟩
  have fb : RowKit.Hid (rb ≠ g ∧ rb ≠ r) := Lib.hid ⟨by omega, by omega⟩
  clear Na Nb Na2 hcl hcd hb hw hl hd ha1 ha2 hb1 hb2
  have hz0 := O12.size
  go_wp2_with fail
  go_loopw [1] (fun o wr => ∃ (q : Nat) (bb : Bool) (r' cap' : Nat) (l' : List Nat), o = .slice (some ⟨r', 0, none⟩) l'.length cap' ∧ SR wr g s q bb ∧ By wr r' cap' l' ∧ Kp [g, r] w2 wr ∧ (r' = r ∨ w2.heap.size ≤ r') ∧ g ≠ r' ∧ RowKit.Hid (l.length ≤ 300 → Still lit dist l s p b l' q bb) ∧ RowKit.Hid (l.length ≤ l'.length ∧ l'.length ≤ l.length + 360 ∧ (l.length < l'.length → l'.length ≤ 360))) (fun o wr => tokFar g o wr)
  case atStart => exact ⟨p, b, r, cap, l, by rw [HN.out], hw2, hb2', Kp.refl _ _, .inl rfl, hgr, Lib.hid (fun h => Still.start h), Lib.hid ⟨Nat.le_refl _, by omega, fun h => by omega⟩⟩
  case round =>
    obtain ⟨q, bb, r', cap', l', rfl, hr, hB, K, hr', hgr', HST, HLE⟩ := hrel
    have c2 : wr.cell? ⟨g, 2, none⟩ = some (.bool bb) := (hr.out.cell 2).trans rfl
    have fr : ∀ i, wr.frozen? ⟨g, i, none⟩ = false := hr.out.frozen
    have KW := (Kp.of [g, r] O12).then K
    have hrw : r' = r ∨ w.heap.size ≤ r' := by omega
    have BX : ∀ u : Value, By (wr.setCell ⟨g, 2, none⟩ u) r' cap' l' := fun u => hB.kp ((Kp.refl [g] _).set (.inl (by simp)) _) (by simpa using Ne.symm hgr')
    have HBX := Lib.hid BX
    have hgwr := hr.out.lt
    clear BX
    cases bb with
    | true =>
      go_wp2_with fail
      go_ret
      exact ⟨q, true, r', cap', l', rfl, ⟨hr.out.set 2 (.bool true), hr.le, hr.sz⟩, HBX.out _, KW.set (.inl (by simp)) _, hrw, fun h => (HST.out h).bad, HLE.out.1, by have := HLE.out.2; omega, fun e => (by cases e)⟩
    | false =>
    by_cases h3 : 300 < l'.length
    · have h3' : decide ((l'.length : Int) ≤ 300) = false := by simp; omega
      have h3'' : decide (l'.length ≤ 300) = false := by simp; omega
      go_wp2_with fail
      go_ret
      refine ⟨q, true, r', cap', l', rfl, ⟨hr.out.set 2 (.bool true), hr.le, hr.sz⟩, HBX.out _, KW.set (.inl (by simp)) _, hrw, fun h => ?_, HLE.out.1, by have := HLE.out.2; omega, fun e => (by cases e)⟩
      obtain ⟨D, h1, _, h4⟩ := (HST.out h).out
      refine h1 _ _ _ ?_
      rcases h4 with ⟨h4, _⟩ | ⟨_, rfl⟩
      · omega
      · exact AnsO.fail _ _ _ _ _
    have h3' : (l'.length : Int) ≤ 300 := by omega
    have hl300 : l.length ≤ 300 := by have := HLE.out.1; omega
    have S := HST.out hl300
    have h3n : l'.length ≤ 300 := by omega
    go_wp2_with fail
    refine (ssymbol_calls lit g nl gl ol cl ra ca s q false wr hr (hl2.kp K (by simp; exact HFL.out)) (Ra.kp K (by simp; exact fa.out)) HNL.out (by omega) hnlc hca HFL.out.1 fa.out.1).mono ?_
    rintro e w5 ⟨v, x, q1, b1, rfl, hr5, A5, hv, hvl, hvh, K5⟩
    have K45 := K.then (K5.mono (fun y hy => .inl (by simp at hy ⊢; exact .inl hy)))
    have KW5 := (Kp.of [g, r] O12).then K45
    obtain ⟨f, hf, HS⟩ := S.sym h3n A5
    have hB5 := hB.kp K5 (by simpa using Ne.symm hgr')
    have d2 : w5.cell? ⟨g, 2, none⟩ = some (.bool b1) := (hr5.out.cell 2).trans rfl
    have HHS := Lib.hid HS
    have HV := Lib.hid hv
    have hz5 := K45.size
    clear HS hv S A5
    cases b1 with
    | true =>
      go_wp2_with fail
      go_ret
      exact ⟨q1, true, r', cap', l', rfl, hr5, hB5, KW5, hrw, fun _ => HHS.out _ _ _ (AnsO.was _ _ _ _ _), HLE.out.1, by have := HLE.out.2; omega, fun e => (by cases e)⟩
    | false =>
    obtain ⟨rfl, hxn⟩ := HV.out rfl
    by_cases h256 : x = 256
    · subst h256
      go_wp2_with fail
      go_ret
      have HX := HHS.out l' q1 false (by
        first | rw [if_pos rfl] | rw [if_pos trivial]
        exact ⟨fun e => (by cases e), fun _ => ⟨rfl, fun _ => rfl, fun h => absurd h h3⟩⟩)
      exact ⟨q1, false, r', cap', l', rfl, hr5, hB5, KW5, hrw, fun _ => HX, HLE.out.1, by have := HLE.out.2; omega, fun e => ⟨(HX.good e).1, .inr h3n⟩⟩
    have h256' : ((x : Int) == 256) = false := by simp; omega
    by_cases hlt : x < 256
    · have hlt' : (x : Int) < 256 := by omega
      have hu8 : IntKind.u8.wrap (x : Int) = (x : Int) := wr_u8 _ (by omega) (by omega)
      go_wp2_with (at_builtin; go_must (refine wpList_byte (x := x) rfl _ _ rfl rfl hB5.out rfl (by omega) ?_); intro r6 cap6 w6 hby6 hr6 hrl6 K6 hc1 hc2)
      have hg6 : g ≠ r6 := by have := hr5.out.lt; rcases hr6 with e | e <;> omega
      have hr66 := hr5.kp K6 (by simpa using hgr')
      refine ⟨⟨q1, false, r6, cap6, l' ++ [x], by rw [List.length_append]; rfl, hr66, ⟨by rw [List.length_append]; exact hby6⟩, K45.trans K6 (fun y hy => ?_), by omega, hg6, Lib.hid (fun _ => ⟨if l'.length < 300 then packed lit dist f (l' ++ [x]) else De.bad, fun l2 p2 b2 h => HHS.out l2 p2 b2 ?_, by rw [List.length_append]; simp; omega, ?_⟩), Lib.hid ⟨by rw [List.length_append]; have := HLE.out.1; omega, by rw [List.length_append]; simp; have := HLE.out.1; omega, fun _ => by rw [List.length_append]; simp; omega⟩⟩, tokFar_lt hr hr66 (by omega) (fun _ => by omega) (by omega)⟩
      · simp at hy ⊢; omega
      · rw [if_neg h256, if_pos hlt]; exact h
      · by_cases h300 : l'.length < 300
        · rw [if_pos h300]; exact .inl ⟨by rw [List.length_append]; simp; omega, f, by rw [List.length_append]; simp; omega, rfl⟩
        · rw [if_neg h300]; exact .inr ⟨by rw [List.length_append]; simp; omega, rfl⟩
    have hge : 257 ≤ x := by omega
    have hlt' : ¬ (x : Int) < 256 := by omega
    have hl'1 := HLE.out.1
    go_wp2_with fail
    refine (sagain_calls g r' cap' l'.length x gd od nd cd rb cb s q1 l' dist w5 hr5 hB5 rfl h3n hgr' hge (by omega) (hd2.kp K45 (by simp; exact HFD.out)) (Rb.kp K45 (by simp; exact fb.out)) HND.out (by omega) hndc hcb HFD.out.1 fb.out.1).mono ?_
    rintro e w6 ⟨q2, b2, r6, cap6, l2, rfl, hr6, hB6, K6, hr6w, A6, h1, h2, h4⟩
    have hg6 : g ≠ r6 := by have := hr5.out.lt; rcases hr6w with e | e <;> omega
    go_wp2_with fail
    refine ⟨⟨q2, b2, r6, cap6, l2, rfl, hr6, hB6, K45.trans K6 (fun y hy => ?_), by omega, hg6, Lib.hid (fun _ => ?_), Lib.hid ⟨by omega, by omega, fun _ => by omega⟩⟩, tokFar_lt hr hr6 (by omega) (fun e => h4 e) (by omega)⟩
    · simp at hy ⊢; omega
    · cases b2 with
      | false =>
        have := h4 rfl
        refine ⟨if l2.length ≤ 300 then packed lit dist f l2 else De.bad, fun l3 p3 b3 h => HHS.out _ _ _ ?_, by omega, ?_⟩
        · rw [if_neg h256, if_neg hlt]; exact AnsO.bind A6 h
        · by_cases h300 : l2.length ≤ 300
          · rw [if_pos h300]; exact .inl ⟨h300, f, by omega, rfl⟩
          · rw [if_neg h300]; exact .inr ⟨by omega, rfl⟩
      | true =>
        refine ⟨if l2.length ≤ 300 then packed lit dist 302 l2 else De.bad, fun l3 p3 b3 h => HHS.out _ _ _ ?_, by omega, ?_⟩
        · rw [if_neg h256, if_neg hlt]
          refine AnsO.bind A6 ?_
          cases b3 with
          | false => have := (h.good rfl).1; cases this
          | true => exact AnsO.was _ _ _ _ _
        · by_cases h300 : l2.length ≤ 300
          · rw [if_pos h300]; exact .inl ⟨h300, 302, by omega, rfl⟩
          · rw [if_neg h300]; exact .inr ⟨by omega, rfl⟩
end Go.Proofs.YtncidljdfipigaaDoor.Wi

/- The specification's reader takes the lengths of both codes. Conditions: a reader. -/
namespace Go.Proofs.YtncidljdfipigaaDoor.Wi
open Go.RowKit Go.Proofs.YtncidljdfipigaaDoor.Mem Go.Proofs.YtncidljdfipigaaDoor.Bt Go.Proofs.YtncidljdfipigaaDoor.Cd Go.Proofs.YtncidljdfipigaaDoor.De
set_option linter.unusedVariables false
set_option linter.unusedSimpArgs false
theorem sorder_calls (w : World) : Calls Tryd.prog 129 #[] w (GivesN w 19 order) := by
  go_enter Tryd.func129, Tryd.ntmps129
  go_wp2_with fail
  go_ret
  exact ⟨w.heap.size, 19, rfl, (Row.of (Blk.new w 3 _)).toO, by omega, Nat.le_refl _, (Blk.new w 3 _).lt, (On.refl w).alloc _⟩
theorem next_ret {α β : Type} (x : α) (k : α → Dec β) : De.next (De.ret x) k = k x := rfl
theorem next_bad {α β : Type} (k : α → Dec β) : De.next (De.bad : Dec α) k = De.bad := rfl
theorem next_next {α β γ : Type} (d : Dec α) (k : α → Dec β) (j : β → Dec γ) : De.next (De.next d k) j = De.next d (fun x => De.next (k x) j) := by
  funext bs
  unfold De.next
  cases d bs <;> rfl
theorem lenLoop_step {m all : List Nat} {want f : Nat} (h : ¬ want ≤ all.length) : lenLoop m want (f + 1) all = De.next (Cd.sym m) fun x => De.next (stepD x all) fun a => lenLoop m want f a := by
  rw [lenLoop, if_neg h]
  congr 1
  funext x
  unfold stepD
  by_cases h1 : x < 16
  · rw [if_pos h1, if_pos h1, next_ret]; rfl
  · rw [if_neg h1, if_neg h1]
    by_cases h2 : x = 16
    · rw [if_pos h2, if_pos h2, next_next]
      congr 1
      funext y
      by_cases h3 : all.length = 0
      · rw [if_pos h3, if_pos h3, next_bad]
      · rw [if_neg h3, if_neg h3, next_ret]
    · rw [if_neg h2, if_neg h2]
      by_cases h3 : x = 17
      · rw [if_pos h3, if_pos h3, next_next]; rfl
      · rw [if_neg h3, if_neg h3, next_next]; rfl
/-- What lens leaves. -/
structure SLens (s : ByteArray) (p : Nat) (b : Bool) (g : Nat) (w : World) (e : Ending) (w' : World) : Prop where mk ::
  out : ∃ (v1 v2 : Value) (p' : Nat) (b' : Bool) (lit dist : List Nat), e = .returned (.tuple #[v1, v2]) ∧ SR w' g s p' b' ∧ Ans own s p b (lit, dist) p' b' ∧ Kp [g] w w' ∧
      (b' = false → ∃ (r n c : Nat), v1 = .slice (some ⟨r, 0, none⟩) lit.length n ∧ v2 = .slice (some ⟨r, lit.length, none⟩) dist.length c ∧ lit.length ≤ 286 ∧ dist.length ≤ 30 ∧ lit.length ≤ n ∧ dist.length ≤ c ∧ RowO w' r 0 3 (i64s lit) ∧ RowO w' r lit.length 3 (i64s dist) ∧ w.heap.size ≤ r)
set_option maxRecDepth 100000 in
set_option maxHeartbeats 4000000 in
theorem slens_calls (g : Nat) (s : ByteArray) (p : Nat) (b : Bool) (w : World) (hw : SR w g s p b) :
    Calls Tryd.prog 137 #[.pointer (some ⟨g, 0, none⟩)] w fun e w' => SLens s p b g w e w' := by
  have hgl := hw.out.lt
  have HE1 := Lib.hid (snum_calls g 5 s p b w hw (by omega))
  have A1 := Lib.hid (ans_num (n := 5) (b := b) hw.le)
  have hm1 := numAt_lt s p 5
  generalize numAt s p 5 = na at *
  generalize min (p + 5) (8 * s.size) = q1 at *
  generalize (b || decide (8 * s.size < p + 5)) = x1 at *
  obtain ⟨lg, hlg⟩ : ∃ lg, na + 257 = lg := ⟨_, rfl⟩
  have e1 : IntKind.i64.wrap (257 + (na : Int)) = (lg : Int) := by rw [IntKind.wrap_i64]; omega
  have hlg1 : 257 ≤ lg ∧ lg ≤ 300 := by omega
  have HLG := Lib.hid hlg
  clear hlg
  go_enter Tryd.func137, Tryd.ntmps137
  go_wp2_with fail
  refine HE1.out.mono ?_
  rintro e w1 ⟨rfl, hw1, K1⟩
  have HE2 := Lib.hid (snum_calls g 5 s q1 x1 w1 hw1 (by omega))
  have A2 := Lib.hid (ans_num (n := 5) (b := x1) hw1.le)
  have hm2 := numAt_lt s q1 5
  generalize numAt s q1 5 = nb at *
  generalize min (q1 + 5) (8 * s.size) = q2 at *
  generalize (x1 || decide (8 * s.size < q1 + 5)) = x2 at *
  obtain ⟨bk, hbk⟩ : ∃ bk, nb + 1 = bk := ⟨_, rfl⟩
  have e2 : IntKind.i64.wrap (1 + (nb : Int)) = (bk : Int) := by rw [IntKind.wrap_i64]; omega
  have hbk1 : 1 ≤ bk ∧ bk ≤ 32 := by omega
  have HBK := Lib.hid hbk
  clear hbk
  go_wp2_with fail
  refine HE2.out.mono ?_
  rintro e w2 ⟨rfl, hw2, K2⟩
  have HE3 := Lib.hid (snum_calls g 4 s q2 x2 w2 hw2 (by omega))
  have A3 := Lib.hid (ans_num (n := 4) (b := x2) hw2.le)
  have hm3 := numAt_lt s q2 4
  generalize numAt s q2 4 = nc at *
  generalize min (q2 + 4) (8 * s.size) = q3 at *
  generalize (x2 || decide (8 * s.size < q2 + 4)) = x3 at *
  obtain ⟨nm, hnm⟩ : ∃ nm, nc + 4 = nm := ⟨_, rfl⟩
  have e3 : IntKind.i64.wrap (4 + (nc : Int)) = (nm : Int) := by rw [IntKind.wrap_i64]; omega
  have hnm1 : nm ≤ 19 := by omega
  have HNM := Lib.hid hnm
  clear hnm hm1 hm2 hm3
  go_wp2_with fail
  refine HE3.out.mono ?_
  rintro e w3 ⟨rfl, hw3, K3⟩
  have K13 := (K1.then K2).then K3
  obtain ⟨D, hD⟩ : ∃ D : Dec (List Nat × List Nat), D = (next (metas nm 0 (List.replicate 19 0)) fun m => if okLens m = true ∧ lg ≤ 286 ∧ bk ≤ 30 then next (lenLoop m (lg + bk) 400 []) fun all => (if okLens (all.take lg) = true ∧ okLens (all.drop lg) = true then De.ret (all.take lg, all.drop lg) else De.bad) else De.bad) := ⟨_, rfl⟩
  have HD := Lib.hid hD
  have HA : RowKit.Hid (∀ y p' b', Ans D s q3 x3 y p' b' → Ans own s p b y p' b') := Lib.hid (fun y p' b' h => by
    rw [HD.out] at h
    unfold own
    refine Ans.next A1.out (Ans.next A2.out (Ans.next A3.out ?_))
    rw [HLG.out, HBK.out, HNM.out]
    exact h)
  clear hD A1 A2 A3 HE1 HE2 HE3 K1 K2 K3 HLG HBK HNM
  have hgl3 := hw3.out.lt
  go_wp2_with (at_make; go_must (refine wpList_ints _ rfl _ _ rfl _ _ 19 rfl rfl rfl rfl (by omega) ?_); intro w4 hN1 O4 hlt1)
  have hw4 := hw3.on O4
  have K04 := K13.then (Kp.of [g] O4)
  have hz3 := K13.size
  have hz4 := O4.size
  generalize hA : w3.heap.size = A at *
  have hgA : g ≠ A := by omega
  have hAw : w.heap.size ≤ A := by omega
  clear hA
  go_loopw [8] (fun i wr => ∃ (k q : Nat) (bb : Bool) (m : List Nat), i = .int .i64 (k : Int) ∧ k ≤ nm ∧ SR wr g s q bb ∧ Nums wr A (.slice (some ⟨A, 0, none⟩) 19 19) m ∧ Kp [g, A] w4 wr ∧ m.length = 19 ∧ (∀ y ∈ m, y ≤ 7) ∧ (∀ y p' b', Ans (metas (nm - k) k m) s q bb y p' b' → Ans (metas nm 0 (List.replicate 19 0)) s q3 x3 y p' b')) (fun i _ => nm - (intOf i).toNat)
  case atStart => exact ⟨0, q3, x3, List.replicate 19 0, rfl, by omega, hw4, hN1, Kp.refl _ _, rfl, by simp, fun y p' b' h => h⟩
  case round =>
    obtain ⟨k, q, bb, m, rfl, hk, hr, hN, K, hml, hm7, hF⟩ := hrel
    by_cases hlt : k < nm
    · have hk19' : k < 19 := by omega
      have hol := order_lt k hk19'
      have HG := Lib.hid (fun W h => snum_calls g 3 s q bb W h (by omega))
      have A4 := ans_num (n := 3) (b := bb) hr.le
      have hv := numAt_lt s q 3
      have hF2 : RowKit.Hid (∀ y p' b', Ans (metas (nm - (k + 1)) (k + 1) (m.set (order.getD k 0) (numAt s q 3))) s (min (q + 3) (8 * s.size)) (bb || decide (8 * s.size < q + 3)) y p' b' → Ans (metas nm 0 (List.replicate 19 0)) s q3 x3 y p' b') := Lib.hid (fun y p' b' h => hF y p' b' (by
        rw [show nm - k = (nm - (k + 1)) + 1 from by omega, metas]
        exact Ans.next A4 h))
      have HM7 := Lib.hid hm7
      have HML := Lib.hid hml
      have hco := fun W r3 (R : RowO W r3 0 3 (i64s order)) => R.cell (i64s_get (show k < order.length from by rw [show order.length = 19 from rfl]; omega))
      simp only [Nat.zero_add] at hco
      have HCO := Lib.hid hco
      clear hF A4 hm7 hml hco
      generalize order.getD k 0 = ok at *
      generalize numAt s q 3 = v at *
      generalize min (q + 3) (8 * s.size) = qq at *
      generalize (bb || decide (8 * s.size < q + 3)) = b2 at *
      have hk2 : (k : Int) < (nm : Int) := by omega
      have hk3 : (k : Int) < 19 := by omega
      have hol2 : (ok : Int) < 19 := by omega
      have hcells : ok < m.length := by rw [HML.out]; exact hol
      have HRR := Lib.hid hr
      have HNN := Lib.hid hN
      have hgS := hr.out.lt
      have hAS := hN.row.1.lt
      go_upto_region 8 with fail
      refine wp_region_held_drew (S := fun W => Kp [g, A] wr W) (by kernel_rfl) (Kp.refl _ _).drew (fun hHeld => ?_)
      have Ow0 := (On.refl wr).drew
      refine wpAnyH_take (i := 0) (oi := _) (v := ?_) rfl (by kernel_rfl) (by kernel_rfl) (by kernel_rfl) (fun _ _ _ h => h) (Or.inl ⟨by rfl, ?_⟩) (by assumption) ?_
      rotate_left
      · intro w hSw
        go_simp
        first | done | with_reducible rfl
      try simp only [Act.put, List.setIfInBounds_toArray, List.set_cons_zero, List.set_cons_succ]
      refine wpAnyH_take (i := 2) (oi := _) (v := ?_) rfl (by kernel_rfl) (by kernel_rfl) (by kernel_rfl) (fun _ _ _ h => h) (Or.inl ⟨by rfl, ?_⟩) (by assumption) ?_
      rotate_left
      · intro w hSw
        go_simp
        first | done | with_reducible rfl
      try simp only [Act.put, List.setIfInBounds_toArray, List.set_cons_zero, List.set_cons_succ]
      refine wpAnyH_take (i := 5) (oi := _) (v := ?_) rfl (by kernel_rfl) (by kernel_rfl) (by kernel_rfl) (fun _ _ _ h => h) (Or.inl ⟨by rfl, ?_⟩) (by assumption) ?_
      rotate_left
      · intro w hSw
        go_simp
        first | done | with_reducible rfl
      try simp only [Act.put, List.setIfInBounds_toArray, List.set_cons_zero, List.set_cons_succ]
      refine wpAnyH_strong (S' := fun W => Kp [g, A] wr.drew W) (fun W h => Kp.then (Kp.of [g, A] Ow0) h) ?_
      have hHeldN : (fun W => Kp [g, A] wr.drew W) wr.drew := Kp.refl _ _
      generalize wr.drew = wD at *
      refine wpAnyH_ready (rs := [1]) (by kernel_rfl) (by simp) ?_
      refine AllReadyH.cons (o := _) rfl (fun K hK => ?_) AllReadyH.nil
      go_simp
      refine (sorder_calls _).mono ?_
      rintro e wA ⟨rA, cA, rfl, RA, hcA, hA1, hA2, OA⟩
      have OwA := Ow0.call OA
      have CA : ∀ W, Kp [g, A] wA W → W.cell? ⟨rA, k, none⟩ = some (.int .i64 (ok : Int)) := fun W h => (h.cell RA.lt (show rA ∉ [g, A] by simp; have := hgS; have := Ow0.size; omega)).trans (HCO.out wA rA RA)
      refine hK.out _ _ (Kp.of [g, A] OA) (fun hHeld => ?_)
      clear hK K
      try simp only [Act.put, List.setIfInBounds_toArray, List.set_cons_zero, List.set_cons_succ]
      refine wpAnyH_strong (S' := fun W => Kp [g, A] wA W) (fun W h => Kp.then (Kp.of [g, A] OA) h) ?_
      have hHeldN : (fun W => Kp [g, A] wA W) wA := Kp.refl _ _
      refine wpAnyH_take (i := 3) (oi := _) (v := ?_) rfl (by kernel_rfl) (by kernel_rfl) (by kernel_rfl) (fun _ _ _ h => h) (Or.inl ⟨by rfl, ?_⟩) (by assumption) ?_
      rotate_left
      · intro w hSw
        go_simp
        first | done | with_reducible rfl
      try simp only [Act.put, List.setIfInBounds_toArray, List.set_cons_zero, List.set_cons_succ]
      refine wpAnyH_take (i := 4) (oi := _) (v := ?_) rfl (by kernel_rfl) (by kernel_rfl) (by kernel_rfl) (fun _ _ _ h => h) (Or.inl ⟨by rfl, ?_⟩) (by assumption) ?_
      rotate_left
      · intro w hSw
        go_simp
        first | done | with_reducible rfl
      try simp only [Act.put, List.setIfInBounds_toArray, List.set_cons_zero, List.set_cons_succ]
      refine wpAnyH_ready (rs := [6]) (by kernel_rfl) (by simp) ?_
      refine AllReadyH.cons (o := _) rfl (fun K hK => ?_) AllReadyH.nil
      go_simp
      refine (HG.out _ (HRR.out.on OwA)).mono ?_
      rintro e wE ⟨rfl, hrE, KE⟩
      have KwE : Kp [g] wr wE := (Kp.of [g] OwA).then KE
      have KEL : Kp [g, A] wA wE := KE.mono (fun y hy => .inl (by simp at hy ⊢; exact .inl hy))
      refine hK.out _ _ (KEL) (fun hHeld => ?_)
      clear hK K
      try simp only [Act.put, List.setIfInBounds_toArray, List.set_cons_zero, List.set_cons_succ]
      refine wpAnyH_strong (S' := fun W => Kp [g, A] wE W) (fun W h => Kp.then (KEL) h) ?_
      have hHeldN : (fun W => Kp [g, A] wE W) wE := Kp.refl _ _
      refine wpAnyH_take (i := 7) (oi := _) (v := ?_) rfl (by kernel_rfl) (by kernel_rfl) (by kernel_rfl) (fun _ _ _ h => h) (Or.inl ⟨by rfl, ?_⟩) (by assumption) ?_
      rotate_left
      · intro w hSw
        go_simp
        first | done | with_reducible rfl
      try simp only [Act.put, List.setIfInBounds_toArray, List.set_cons_zero, List.set_cons_succ]
      have hNE := HNN.out.kp KwE (by simpa using Ne.symm hgA)
      have ce := hNE.row.1.cell (i64s_get hcells)
      have fe : ∀ i, wE.frozen? ⟨A, i, none⟩ = false := hNE.row.1.frozen
      refine wpAnyH_ready (rs := [8]) (by kernel_rfl) (by simp) ?_
      refine AllReadyH.cons (o := _) rfl (fun K hK => ?_) AllReadyH.nil
      go_simp
      have KS : Kp [A] wE (wE.setCell ⟨A, ok, none⟩ (.int .i64 (v : Int))) := (Kp.refl _ _).set (.inl (by simp)) _
      refine hK.out _ _ (KS.mono (fun y hy => .inl (by simp at hy ⊢; exact .inr hy))) (fun hHeld => ?_)
      clear hK K
      refine wpAnyH_done (by kernel_rfl) ?_ _
      clear hHeld hHeldN CA RA hcA hA1 hA2 OA OwA Ow0 KE KEL ce fe
      go_wp2_with fail
      go_roundw
      case rel =>
        refine ⟨k + 1, qq, b2, m.set ok v, by go_num, by omega, hrE.kp KS (by simpa using hgA), hNE.set ok v, (K.then (KwE.mono (fun y hy => .inl (by simp at hy ⊢; exact .inl hy)))).set (.inl (by simp)) _, by rw [List.length_set]; exact HML.out, fun y hy => ?_, hF2.out⟩
        rcases List.mem_or_eq_of_mem_set hy with h | rfl
        · exact HM7.out y h
        · omega
      case measure => simp [intOf]; omega
    · obtain rfl : k = nm := by omega
      have hM : Ans (metas k 0 (List.replicate 19 0)) s q3 x3 m q bb := hF m q bb (by rw [Nat.sub_self]; exact Ans.ret _ _ _ _)
      have HF : RowKit.Hid (∀ y p' b', Ans (if okLens m = true ∧ lg ≤ 286 ∧ bk ≤ 30 then next (lenLoop m (lg + bk) 400 []) fun all => (if okLens (all.take lg) = true ∧ okLens (all.drop lg) = true then De.ret (all.take lg, all.drop lg) else De.bad) else De.bad) s q bb y p' b' → Ans own s p b y p' b') := Lib.hid (fun y p' b' h => HA.out _ _ _ (by rw [HD.out]; exact Ans.next hM h))
      clear hF hM
      have K0r : Kp [g] w wr := K04.trans K (fun y hy => by simp at hy ⊢; omega)
      have hzr : A < wr.heap.size := by have := K.size; omega
      have hx100 : ∀ y ∈ m, y ≤ 100000 := fun y hy => by have := hm7 y hy; omega
      have RM := hN.row.1.toO
      cases hok : okLens m with
      | false =>
        have HOK := Lib.hid hok
        clear hok
        go_wp2_with fail
        refine (slensok_calls m A 0 19 19 wr RM hml (by omega) (by omega) hx100).mono ?_
        rintro e w6 ⟨rfl, O6⟩
        rw [HOK.out]
        have hr6 := hr.on O6
        have fr6 : ∀ i, w6.frozen? ⟨g, i, none⟩ = false := hr6.out.frozen
        have d6 : w6.cell? ⟨g, 2, none⟩ = some (.bool bb) := (hr6.out.cell 2).trans rfl
        go_wp2_with fail
        go_ret2
        have R7 : SR (w6.setCell ⟨g, 2, none⟩ (.bool true)) g s q true := ⟨hr6.out.set 2 (.bool true), hr.le, hr.sz⟩
        have O7 := ((On.refl (w6.setCell ⟨g, 2, none⟩ (.bool true))).alloc (.cells #[] 3)).alloc (.cells #[] 3)
        refine .mk ⟨_, _, q, true, [], [], rfl, R7.on O7, HF.out _ _ _ ?_, ((K0r.then (Kp.of _ O6)).set (.inl (by simp)) _).then (Kp.of _ O7), fun e => by cases e⟩
        rw [if_neg (fun h => by have := HOK.out; rw [h.1] at this; cases this)]
        exact Ans.fail _ _ _ _ _
      | true =>
        have HOK := Lib.hid hok
        clear hok
        by_cases hL : 286 < lg
        · have hL' : (286 : Int) < (lg : Int) := by omega
          go_wp2_with fail
          refine (slensok_calls m A 0 19 19 wr RM hml (by omega) (by omega) hx100).mono ?_
          rintro e w6 ⟨rfl, O6⟩
          rw [HOK.out]
          have hr6 := hr.on O6
          have fr6 : ∀ i, w6.frozen? ⟨g, i, none⟩ = false := hr6.out.frozen
          have d6 : w6.cell? ⟨g, 2, none⟩ = some (.bool bb) := (hr6.out.cell 2).trans rfl
          go_wp2_with fail
          go_ret2
          have R7 : SR (w6.setCell ⟨g, 2, none⟩ (.bool true)) g s q true := ⟨hr6.out.set 2 (.bool true), hr.le, hr.sz⟩
          have O7 := ((On.refl (w6.setCell ⟨g, 2, none⟩ (.bool true))).alloc (.cells #[] 3)).alloc (.cells #[] 3)
          refine .mk ⟨_, _, q, true, [], [], rfl, R7.on O7, HF.out _ _ _ ?_, ((K0r.then (Kp.of _ O6)).set (.inl (by simp)) _).then (Kp.of _ O7), fun e => by cases e⟩
          rw [if_neg (fun h => by omega)]
          exact Ans.fail _ _ _ _ _
        have hL' : ¬ (286 : Int) < (lg : Int) := by omega
        have hL'' : decide ((286 : Int) < (lg : Int)) = false := by simp; omega
        by_cases hB : 30 < bk
        · have hB' : (30 : Int) < (bk : Int) := by omega
          go_wp2_with fail
          refine (slensok_calls m A 0 19 19 wr RM hml (by omega) (by omega) hx100).mono ?_
          rintro e w6 ⟨rfl, O6⟩
          rw [HOK.out]
          have hr6 := hr.on O6
          have fr6 : ∀ i, w6.frozen? ⟨g, i, none⟩ = false := hr6.out.frozen
          have d6 : w6.cell? ⟨g, 2, none⟩ = some (.bool bb) := (hr6.out.cell 2).trans rfl
          go_wp2_with fail
          go_ret2
          have R7 : SR (w6.setCell ⟨g, 2, none⟩ (.bool true)) g s q true := ⟨hr6.out.set 2 (.bool true), hr.le, hr.sz⟩
          have O7 := ((On.refl (w6.setCell ⟨g, 2, none⟩ (.bool true))).alloc (.cells #[] 3)).alloc (.cells #[] 3)
          refine .mk ⟨_, _, q, true, [], [], rfl, R7.on O7, HF.out _ _ _ ?_, ((K0r.then (Kp.of _ O6)).set (.inl (by simp)) _).then (Kp.of _ O7), fun e => by cases e⟩
          rw [if_neg (fun h => by omega)]
          exact Ans.fail _ _ _ _ _
        have hB' : ¬ (30 : Int) < (bk : Int) := by omega
        have hB'' : decide ((30 : Int) < (bk : Int)) = false := by simp; omega
        have HF3 : RowKit.Hid (∀ y p' b', Ans (next (lenLoop m (lg + bk) 400 []) fun all => (if okLens (all.take lg) = true ∧ okLens (all.drop lg) = true then De.ret (all.take lg, all.drop lg) else De.bad)) s q bb y p' b' → Ans own s p b y p' b') := Lib.hid (fun y p' b' h => HF.out y p' b' (by rw [if_pos ⟨HOK.out, by omega, by omega⟩]; exact h))
        clear HF HA HD
        go_wp2_with fail
        refine (slensok_calls m A 0 19 19 wr RM hml (by omega) (by omega) hx100).mono ?_
        rintro e w6 ⟨rfl, O6⟩
        rw [HOK.out]
        go_wp2_with fail
        refine (scodes_calls m A 0 19 19 w6 (RM.on O6) hml (by omega) (by omega)).mono ?_
        rintro e w7 ⟨rc, cc, rfl, Nc, hc1, hc2, O7⟩
        have hcl : (codes m).length = 19 := by rw [codes_length]; exact hml
        rw [hcl] at Nc ⊢
        have O67 := O6.call O7
        have hr7 := hr.on O67
        have hz7 := O67.size
        have hz6 := O6.size
        have hzr0 := K0r.size
        have hcc : 19 ≤ cc := Nc.row.2.2.1
        have Rc := Nc.row.1.toO
        have RM7 := RM.on O67
        have hgr7 := hr.out.lt
        have frc : RowKit.Hid (rc ≠ g) := Lib.hid (by omega)
        have K07 := K0r.then (Kp.of [g] O67)
        have OE := (On.refl w7).alloc (.cells #[] 3)
        have NE := Nums.new w7 #[] [] rfl (by simp)
        have hr8 := hr7.on OE
        have Rc8 := Rc.on OE
        have RM8 := RM7.on OE
        have K08 := K07.then (Kp.of [g] OE)
        have hz8 := OE.size
        have hgl8 := hr8.out.lt
        clear Nc hcl RM Rc RM7
        go_wp2_with fail
        generalize hC : w7.heap.size = C at *
        generalize w7.alloc (.cells #[] 3) = w8 at *
        have hgC : g ≠ C := by omega
        have hCw : w.heap.size ≤ C := by omega
        have hrC : rc ≠ C := by omega
        have hAC : A ≠ C := by omega
        clear hC
        go_loopw [10] (fun o wr2 => ∃ (q2 : Nat) (b2 : Bool) (ra ca f : Nat) (all : List Nat), o = .slice (some ⟨ra, 0, none⟩) all.length ca ∧ SR wr2 g s q2 b2 ∧ Nums wr2 ra (.slice (some ⟨ra, 0, none⟩) all.length ca) all ∧ Kp [g, C] w8 wr2 ∧ (ra = C ∨ w8.heap.size ≤ ra) ∧ (∀ y ∈ all, y ≤ 15) ∧ 1 ≤ f ∧ (b2 = false → 400 ≤ f + all.length) ∧ all.length ≤ 600 ∧
          (∀ y p' b', Ans (lenLoop m (lg + bk) f all) s q2 b2 y p' b' → Ans (lenLoop m (lg + bk) 400 []) s q bb y p' b')) (fun o wr2 => tokFar g o wr2)
        case atStart => exact ⟨q, bb, C, 0, 400, [], rfl, hr8, NE, Kp.refl _ _, .inl rfl, by simp, by omega, fun _ => by simp, by simp, fun y p' b' h => h⟩
        case round =>
          obtain ⟨q2, b2, ra, ca, f, all, rfl, hr9, hN9, K9, hra, h15, hf1, hf4, hal, hF9⟩ := hrel
          have HF9 := Lib.hid hF9
          have H15 := Lib.hid h15
          have HF4 := Lib.hid hf4
          clear hF9 h15 hf4
          have d9 : wr.cell? ⟨g, 2, none⟩ = some (.bool b2) := (hr9.out.cell 2).trans rfl
          have hgra : g ≠ ra := by omega
          have K09 : Kp [g] w wr := K08.trans (T := [g, C]) K9 (fun y hy => by simp at hy ⊢; omega)
          have e5 : IntKind.i64.wrap ((lg : Int) + (bk : Int)) = ((lg + bk : Nat) : Int) := by rw [IntKind.wrap_i64]; omega
          obtain ⟨wt, hwt⟩ : ∃ wt, lg + bk = wt := ⟨_, rfl⟩
          have HWT := Lib.hid hwt
          rw [hwt] at e5
          generalize hnn : all.length = nn at *
          have HNN := Lib.hid hnn
          clear hnn
          have hwt1 : wt ≤ 316 := by omega
          clear hwt
          by_cases hlt : nn < wt
          · have hlt' : (nn : Int) < (wt : Int) := by omega
            cases b2 with
            | true =>
              have fr9 : ∀ i, wr.frozen? ⟨g, i, none⟩ = false := hr9.out.frozen
              have OA : ∀ W, On W ((W.alloc (.cells #[] 3)).alloc (.cells #[] 3)) := fun W => ((On.refl W).alloc _).alloc _
              have HOA := Lib.hid OA
              clear OA
              go_wp2_with fail
              go_ret2
              exact .mk ⟨_, _, q2, true, [], [], rfl, (show SR (wr.setCell ⟨g, 2, none⟩ (.bool true)) g s q2 true from ⟨hr9.out.set 2 (.bool true), hr9.le, hr9.sz⟩).on (HOA.out _), HF3.out _ _ _ (Ans.next (x := all) (HF9.out all q2 true ⟨fun _ => .inl rfl, fun e => (by cases e)⟩) ⟨fun _ => .inl rfl, fun e => (by cases e)⟩), (K09.set (.inl (by simp)) _).then (Kp.of _ (HOA.out _)), fun e => (by cases e)⟩
            | false =>
              obtain ⟨f, rfl⟩ : ∃ f', f = f' + 1 := ⟨f - 1, by omega⟩
              have hf4 := HF4.out rfl
              obtain ⟨wo, hwo⟩ : ∃ wo : World, wo = wr := ⟨_, rfl⟩
              subst hwo
              go_wp2_with fail
              refine (ssymbol_calls m g 19 A 0 19 rc cc s q2 false wo hr9 ((RM8.kp K9 (by simp; omega))) (Rc8.kp K9 (by simp; exact ⟨frc.out, hrC⟩)) hml (by omega) (by omega) hcc (Ne.symm hgA) frc.out).mono ?_
              rintro e w10 ⟨v, x, q3', b3, rfl, hr10, A10, hv, hvl, hvh, K10⟩
              have hN10 := hN9.kp K10 (by simpa using Ne.symm hgra)
              have hgl10 := hr10.out.lt
              have hz9 := K9.size
              have hz10 := K10.size
              have HV := Lib.hid hv
              have HA10 := Lib.hid A10
              clear hv A10
              go_wp2_with fail
              refine (smany_calls g ra ca nn x v s q3' b3 all w10 hr10 hN10 HNN.out (by omega) hgra H15.out hvl (by omega) (fun e => HV.out e)).mono ?_
              rintro e w11 ⟨q4, b4, r11, c11, l11, rfl, hr11, hN11, K11, hra11, A11, hl11, hl11'⟩
              go_wp2_with fail
              have hz11 := K11.size
              have hlen11 : nn ≤ l11.length ∧ (b4 = false → nn < l11.length) ∧ l11.length ≤ nn + 138 ∧ ∀ y ∈ l11, y ≤ 15 := by
                cases b4 with
                | true =>
                  rw [hl11' rfl, HNN.out]
                  exact ⟨Nat.le_refl _, fun e => (by cases e), by omega, H15.out⟩
                | false =>
                  obtain ⟨M, AG, rfl, hM1, hM2, hAG⟩ := hl11 rfl
                  rw [List.length_append, List.length_replicate, HNN.out]
                  refine ⟨by omega, fun _ => by omega, by omega, fun y hy => ?_⟩
                  rcases List.mem_append.1 hy with h | h
                  · exact H15.out y h
                  · rw [List.eq_of_mem_replicate h]; exact hAG
              obtain ⟨hl1, hl2, hl3, hl4⟩ := hlen11
              have HF11 : RowKit.Hid (∀ y p' b', Ans (lenLoop m (lg + bk) f l11) s q4 b4 y p' b' → Ans (lenLoop m (lg + bk) 400 []) s q bb y p' b') := Lib.hid (fun y p' b' h => HF9.out y p' b' (by
                rw [lenLoop_step (by rw [HNN.out, HWT.out]; omega)]
                exact Ans.next HA10.out (Ans.next A11 h)))
              refine ⟨⟨q4, b4, r11, c11, f, l11, rfl, hr11, hN11, ?_, by omega, hl4, by omega, fun e => by have := hl2 e; omega, by omega, HF11.out⟩, tokFar_lt hr9 hr11 hl1 hl2 (by omega)⟩
              exact (K9.then (K10.mono (fun y hy => .inl (by simp at hy ⊢; exact .inl hy)))).trans K11 (fun y hy => by simp at hy ⊢; omega)
          · have hlt' : ¬ (nn : Int) < (wt : Int) := by omega
            have hlt'' : decide ((nn : Int) < (wt : Int)) = false := by simp; omega
            obtain ⟨f, rfl⟩ : ∃ f', f = f' + 1 := ⟨f - 1, by omega⟩
            have fr9 : ∀ i, wr.frozen? ⟨g, i, none⟩ = false := hr9.out.frozen
            have OA : ∀ W, On W ((W.alloc (.cells #[] 3)).alloc (.cells #[] 3)) := fun W => ((On.refl W).alloc _).alloc _
            have HOA := Lib.hid OA
            clear OA
            cases b2 with
            | true =>
              go_wp2_with fail
              go_ret2
              refine .mk ⟨_, _, q2, true, [], [], rfl, (show SR (wr.setCell ⟨g, 2, none⟩ (.bool true)) g s q2 true from ⟨hr9.out.set 2 (.bool true), hr9.le, hr9.sz⟩).on (HOA.out _), HF3.out _ _ _ ?_, ((K09).set (.inl (by simp)) _).then (Kp.of _ (HOA.out _)), fun e => (by cases e)⟩
              exact Ans.next (x := all) (HF9.out all q2 true ⟨fun _ => .inl rfl, fun e => (by cases e)⟩) ⟨fun _ => .inl rfl, fun e => (by cases e)⟩
            | false =>
            by_cases heq : nn = wt
            · subst heq
              have hne1 : ((nn : Int) != (nn : Int)) = false := by simp
              have RA := hN9.row.1
              have hcap : nn ≤ ca := hN9.row.2.2.1
              have hAL : RowKit.Hid (∀ y p' b', Ans (if okLens (all.take lg) = true ∧ okLens (all.drop lg) = true then De.ret (all.take lg, all.drop lg) else De.bad) s q2 false y p' b' → Ans own s p b y p' b') := Lib.hid (fun y p' b' h => HF3.out y p' b' (Ans.next (x := all) (HF9.out all q2 false (by
                rw [lenLoop, if_pos (by have a := HNN.out; have b := HWT.out; omega), if_pos (by have a := HNN.out; have b := HWT.out; omega)]
                exact Ans.ret _ _ _ _)) h))
              have hwt2 := HWT.out
              have hcne : ¬ ca = lg := by omega
              have hcne2 : ca ≠ lg := hcne
              have hll : (all.take lg).length = lg := by rw [List.length_take, HNN.out]; omega
              have hld : (all.drop lg).length = nn - lg := by rw [List.length_drop, HNN.out]
              have RT : RowO wr ra 0 3 (i64s (all.take lg)) := by
                have := RA.sub 0 lg
                rw [List.drop_zero] at this
                have e : i64s (all.take lg) = (i64s all).take lg := by unfold i64s; rw [List.map_take]
                rw [e]; exact this
              have RD : RowO wr ra lg 3 (i64s (all.drop lg)) := by
                have := RA.sub lg (nn - lg)
                have e : i64s (all.drop lg) = ((i64s all).drop lg).take (nn - lg) := by
                  rw [List.take_of_length_le (by rw [List.length_drop, i64s_length, HNN.out]; omega)]
                  unfold i64s; rw [List.map_drop]
                rw [e]; exact this
              have hxt : ∀ y ∈ all.take lg, y ≤ 100000 := fun y hy => by have := H15.out y (List.mem_of_mem_take hy); omega
              have hxd : ∀ y ∈ all.drop lg, y ≤ 100000 := fun y hy => by have := H15.out y (List.mem_of_mem_drop hy); omega
              have HT := Lib.hid (slensok_calls (all.take lg) ra 0 lg ca wr RT hll (by omega) (by omega) hxt)
              have HDD := Lib.hid (fun W (O : On wr W) => slensok_calls (all.drop lg) ra lg (nn - lg) (ca - lg) W (RD.on O) hld (by omega) (by omega) hxd)
              have HLL := Lib.hid hll
              have HLD := Lib.hid hld
              have HRT := Lib.hid RT
              have HRD := Lib.hid RD
              clear hll hld RT RD hxt hxd
              have hb1 : (lg : Int) ≤ (nn : Int) := by omega
              have hb3 : (nn : Int) ≤ (ca : Int) := by omega
              have hb4 : (lg : Int) ≤ (ca : Int) := by omega
              have hbk30 : nn - lg = bk := by omega
              have HBK := Lib.hid hbk30
              clear hwt2 hbk30
              generalize hT : all.take lg = tk at *
              generalize hDr : all.drop lg = dr at *
              have hTT := Lib.hid hT
              have hDD := Lib.hid hDr
              clear hT hDr
              cases hk1 : okLens tk with
              | false =>
                have HK1 := Lib.hid hk1
                clear hk1
                go_wp2_with fail
                refine HT.out.mono ?_
                rintro e w12 ⟨rfl, O12⟩
                rw [HK1.out]
                have hr12 := hr9.on O12
                have d12 : w12.cell? ⟨g, 2, none⟩ = some (.bool false) := (hr12.out.cell 2).trans rfl
                have fr12 : ∀ i, w12.frozen? ⟨g, i, none⟩ = false := hr12.out.frozen
                have K12 := K09.then (Kp.of [g] O12)
                go_wp2_with fail
                go_ret2
                refine .mk ⟨_, _, q2, true, [], [], rfl, (show SR (w12.setCell ⟨g, 2, none⟩ (.bool true)) g s q2 true from ⟨hr12.out.set 2 (.bool true), hr12.le, hr12.sz⟩).on (HOA.out _), hAL.out _ _ _ ?_, ((K12).set (.inl (by simp)) _).then (Kp.of _ (HOA.out _)), fun e => (by cases e)⟩
                rw [if_neg (fun h => by have := HK1.out; rw [h.1] at this; cases this)]
                exact Ans.fail _ _ _ _ _
              | true =>
                have HK1 := Lib.hid hk1
                clear hk1
                cases hk2 : okLens dr with
                | false =>
                  have HK2 := Lib.hid hk2
                  clear hk2
                  go_wp2_with fail
                  refine HT.out.mono ?_
                  rintro e w12 ⟨rfl, O12⟩
                  rw [HK1.out]
                  go_wp2_with fail
                  refine (HDD.out w12 O12).mono ?_
                  rintro e w13 ⟨rfl, O13⟩
                  rw [HK2.out]
                  have O23 := O12.call O13
                  have hr12 := hr9.on O23
                  have d12 : w13.cell? ⟨g, 2, none⟩ = some (.bool false) := (hr12.out.cell 2).trans rfl
                  have fr12 : ∀ i, w13.frozen? ⟨g, i, none⟩ = false := hr12.out.frozen
                  have K12 := K09.then (Kp.of [g] O23)
                  go_wp2_with fail
                  go_ret2
                  refine .mk ⟨_, _, q2, true, [], [], rfl, (show SR (w13.setCell ⟨g, 2, none⟩ (.bool true)) g s q2 true from ⟨hr12.out.set 2 (.bool true), hr12.le, hr12.sz⟩).on (HOA.out _), hAL.out _ _ _ ?_, ((K12).set (.inl (by simp)) _).then (Kp.of _ (HOA.out _)), fun e => (by cases e)⟩
                  rw [if_neg (fun h => by have := HK2.out; rw [h.2] at this; cases this)]
                  exact Ans.fail _ _ _ _ _
                | true =>
                  have HK2 := Lib.hid hk2
                  clear hk2
                  go_wp2_with fail
                  refine HT.out.mono ?_
                  rintro e w12 ⟨rfl, O12⟩
                  rw [HK1.out]
                  go_wp2_with fail
                  refine (HDD.out w12 O12).mono ?_
                  rintro e w13 ⟨rfl, O13⟩
                  rw [HK2.out]
                  have O23 := O12.call O13
                  have hr12 := hr9.on O23
                  have d12 : w13.cell? ⟨g, 2, none⟩ = some (.bool false) := (hr12.out.cell 2).trans rfl
                  have K12 := K09.then (Kp.of [g] O23)
                  go_wp2_with fail
                  go_quiet (fail)
                  go_wp2_with fail
                  go_ret2
                  have OD := (On.refl w13).drewN nq
                  refine .mk ⟨_, _, q2, false, tk, dr, rfl, hr12.on OD, hAL.out _ _ _ ?_, K12.drewN _, fun _ => ⟨ra, ca, ca - lg, by rw [HLL.out]; rfl, by rw [HLL.out, HLD.out]; rfl, by rw [HLL.out]; omega, by rw [HLD.out, HBK.out]; omega, by rw [HLL.out]; omega, by rw [HLD.out]; omega, (HRT.out.on O23).on OD, by rw [HLL.out]; exact (HRD.out.on O23).on OD, by have := K08.size; omega⟩⟩
                  rw [if_pos ⟨HK1.out, HK2.out⟩]
                  exact Ans.ret _ _ _ _
            · have hne1 : ((nn : Int) != (wt : Int)) = true := by simp; omega
              go_wp2_with fail
              go_ret2
              refine .mk ⟨_, _, q2, true, [], [], rfl, (show SR (wr.setCell ⟨g, 2, none⟩ (.bool true)) g s q2 true from ⟨hr9.out.set 2 (.bool true), hr9.le, hr9.sz⟩).on (HOA.out _), HF3.out _ _ _ ?_, ((K09).set (.inl (by simp)) _).then (Kp.of _ (HOA.out _)), fun e => (by cases e)⟩
              refine Ans.next (x := all) (HF9.out all q2 true ?_) ⟨fun _ => .inl rfl, fun e => (by cases e)⟩
              rw [lenLoop, if_pos (by have a := HNN.out; have b := HWT.out; omega), if_neg (by have a := HNN.out; have b := HWT.out; omega)]
              exact Ans.fail _ _ _ _ _
end Go.Proofs.YtncidljdfipigaaDoor.Wi

/- The program's reader at a part packed by both codes that is bad already, or whose lengths are not ok. -/
namespace Go.Proofs.YtncidljdfipigaaDoor.Wi
open Go.RowKit Go.Proofs.YtncidljdfipigaaDoor.Mem Go.Proofs.YtncidljdfipigaaDoor.Bt Go.Proofs.YtncidljdfipigaaDoor.Cd Go.Proofs.YtncidljdfipigaaDoor.De
set_option linter.unusedVariables false
set_option linter.unusedSimpArgs false
theorem rpacked_bad (g : Nat) (s : ByteArray) (p : Nat) (v1 v2 v3 : Value) (w : World) (hw : IR w g s p true) :
    Calls Tryd.prog 55 #[.pointer (some ⟨g, 0, none⟩), v1, v2, v3] w fun e w' => e = .returned v1 ∧ IR w' g s p true ∧ Kp [g] w w' := by
  have c2 := (hw.out.cell 2).trans rfl
  have fr : ∀ i, w.frozen? ⟨g, i, none⟩ = false := hw.out.frozen
  go_enter Tryd.func55, Tryd.ntmps55
  go_wp2_with fail
  go_ret
  exact ⟨rfl, ⟨hw.out.set 2 (.bool true), hw.le, hw.sz⟩, (Kp.refl _ _).set (.inl (by simp)) _⟩
theorem rpacked_not (g gl ol nl cl gd od nd cd : Nat) (s : ByteArray) (p : Nat) (lit dist : List Nat) (v1 : Value) (w : World) (hw : IR w g s p false)
    (hl : RowO w gl ol 3 (i64s lit)) (hd : RowO w gd od 3 (i64s dist)) (hnl : lit.length = nl) (hnd : dist.length = nd) (hnlc : nl ≤ cl) (hndc : nd ≤ cd)
    (hl15 : ∀ x ∈ lit, x ≤ 100000) (hd15 : ∀ x ∈ dist, x ≤ 100000) (hlen : nl ≤ 1000) (hlen2 : nd ≤ 1000) (hok : ¬ (okLens lit = true ∧ okLens dist = true)) :
    Calls Tryd.prog 55 #[.pointer (some ⟨g, 0, none⟩), v1, .slice (some ⟨gl, ol, none⟩) nl cl, .slice (some ⟨gd, od, none⟩) nd cd] w fun e w' => e = .returned v1 ∧ IR w' g s p true ∧ Kp [g] w w' := by
  have HNL := Lib.hid hnl
  have HND := Lib.hid hnd
  have HXL := Lib.hid hl15
  have HXD := Lib.hid hd15
  have HOK := Lib.hid hok
  have c2 := (hw.out.cell 2).trans rfl
  clear hnl hnd hl15 hd15 hok
  have step : ∀ w2, On w w2 → w2.cell? ⟨g, 2, none⟩ = some (.bool false) ∧ (∀ i, w2.frozen? ⟨g, i, none⟩ = false) := fun w2 O => ⟨((hw.on O).out.cell 2).trans rfl, (hw.on O).out.frozen⟩
  have HST := Lib.hid step
  clear step
  by_cases hokl : okLens lit = true
  · have hokd : okLens dist = false := by
      cases h : okLens dist with
      | true => exact absurd ⟨hokl, h⟩ HOK.out
      | false => rfl
    have HOL := Lib.hid hokl
    have HOD := Lib.hid hokd
    clear hokl hokd
    go_enter Tryd.func55, Tryd.ntmps55
    go_wp2_with fail
    refine (lensok_calls lit gl ol nl cl w hl HNL.out (by omega) hnlc HXL.out).mono ?_
    rintro e w1 ⟨rfl, O1⟩
    rw [HOL.out]
    go_wp2_with fail
    refine (lensok_calls dist gd od nd cd w1 (hd.on O1) HND.out (by omega) hndc HXD.out).mono ?_
    rintro e w2 ⟨rfl, O2⟩
    rw [HOD.out]
    obtain ⟨d2, fr⟩ := HST.out w2 (O1.call O2)
    have hw2 := hw.on (O1.call O2)
    go_wp2_with fail
    go_ret
    exact ⟨rfl, ⟨hw2.out.set 2 (.bool true), hw.le, hw.sz⟩, ((Kp.of [g] (O1.call O2))).set (.inl (by simp)) _⟩
  · have hokl' : okLens lit = false := by simpa using hokl
    have HOL := Lib.hid hokl'
    clear hokl hokl'
    go_enter Tryd.func55, Tryd.ntmps55
    go_wp2_with fail
    refine (lensok_calls lit gl ol nl cl w hl HNL.out (by omega) hnlc HXL.out).mono ?_
    rintro e w1 ⟨rfl, O1⟩
    rw [HOL.out]
    obtain ⟨d2, fr⟩ := HST.out w1 O1
    have hw1 := hw.on O1
    go_wp2_with fail
    go_ret
    exact ⟨rfl, ⟨hw1.out.set 2 (.bool true), hw.le, hw.sz⟩, ((Kp.of [g] O1)).set (.inl (by simp)) _⟩
end Go.Proofs.YtncidljdfipigaaDoor.Wi

/- Lengths of codes that all know, in both programs. -/
namespace Go.Proofs.YtncidljdfipigaaDoor.Wi
open Go.RowKit Go.Proofs.YtncidljdfipigaaDoor.Mem Go.Proofs.YtncidljdfipigaaDoor.De
set_option linter.unusedVariables false
set_option linter.unusedSimpArgs false
theorem fill_step (l : List Nat) {n k : Nat} (hn : l.length = n) (hk : k < n) : (l.take k ++ List.replicate (n - k) 0).set k (l.getD k 0) = l.take (k + 1) ++ List.replicate (n - (k + 1)) 0 := by
  have hl : (l.take k).length = k := by rw [List.length_take]; omega
  rw [List.set_append_right _ _ (by omega), hl, Nat.sub_self, take_succ_getD l (by omega), List.append_assoc]
  obtain ⟨m, hm⟩ : ∃ m, n - k = m + 1 := ⟨n - k - 1, by omega⟩
  rw [hm, show n - (k + 1) = m from by omega, List.replicate_succ]
  rfl
theorem fixLit_at : ∀ k, k < 288 → fixLit.getD k 0 = if k < 144 then 8 else if k < 256 then 9 else if k < 280 then 7 else 8 := by decide +kernel
theorem fixLit_length : fixLit.length = 288 := by decide +kernel
theorem fixDist_length : fixDist.length = 32 := by decide +kernel
theorem fixDist_at : ∀ k, k < 32 → fixDist.getD k 0 = 5 := by decide +kernel
theorem fill_at (l : List Nat) {n k : Nat} (hn : l.length = n) (hk : k < n) : (l.take k ++ List.replicate (n - k) 0).length = n := by
  rw [List.length_append, List.length_take, List.length_replicate]; omega
set_option maxRecDepth 100000 in
set_option maxHeartbeats 1000000 in
theorem ifixed_calls (w : World) : Calls Tryd.prog 54 #[] w fun e w' => ∃ r1 r2, e = .returned (.tuple #[.slice (some ⟨r1, 0, none⟩) 288 288, .slice (some ⟨r2, 0, none⟩) 32 32]) ∧ RowO w' r1 0 3 (i64s fixLit) ∧ RowO w' r2 0 3 (i64s fixDist) ∧ w.heap.size ≤ r1 ∧ w.heap.size ≤ r2 ∧ On w w' := by
  have hfl := fixLit_length
  have hfa := fixLit_at
  have hdl := fixDist_length
  have hda := fixDist_at
  generalize fixLit = l at *
  generalize fixDist = d at *
  have HFL := Lib.hid hfl
  have HFA := Lib.hid hfa
  have HDL := Lib.hid hdl
  have HDA := Lib.hid hda
  clear hfl hfa hdl hda
  go_enter Tryd.func54, Tryd.ntmps54
  go_wp2_with (at_make; go_must (refine wpList_ints _ rfl _ _ rfl _ _ 288 rfl rfl rfl rfl (by omega) ?_); intro w1 hN1 O1 hlt1)
  generalize hA : w.heap.size = A at *
  have HA := Lib.hid hA
  clear hA
  go_loopw [9] (fun x wr => ∃ k : Nat, x = .int .i64 (k : Int) ∧ k ≤ 288 ∧ Nums wr A (.slice (some ⟨A, 0, none⟩) 288 288) (l.take k ++ List.replicate (288 - k) 0) ∧ Kp [A] w1 wr) (fun x _ => 288 - (intOf x).toNat)
  case atStart => exact ⟨0, rfl, by omega, hN1, Kp.refl _ _⟩
  case round =>
    obtain ⟨k, rfl, hk, hN, K⟩ := hrel
    by_cases hlt : k < 288
    · have hst := fill_step l HFL.out hlt
      rw [HFA.out k hlt] at hst
      have hll := fill_at l HFL.out hlt
      have R := hN.row.1
      have cB : wr.cell? ⟨A, k, none⟩ = some (.int .i64 ((l.take k ++ List.replicate (288 - k) 0).getD k 0 : Nat)) := R.cell (i64s_get (by rw [hll]; exact hlt))
      have fB : wr.frozen? ⟨A, k, none⟩ = false := R.frozen _
      have hset := fun x => hN.set k x
      generalize l.take k ++ List.replicate (288 - k) 0 = cur at *
      generalize cur.getD k 0 = y at *
      have hk1 : (k : Int) < 288 := by omega
      have HST := Lib.hid hst
      have HSET := Lib.hid hset
      clear hst hset hll
      have hfin : ∀ (x : Nat), (if k < 144 then 8 else if k < 256 then 9 else if k < 280 then 7 else 8) = x →
          (∃ k_1 : Nat, Value.int .i64 ((k : Int) + 1) = .int .i64 (k_1 : Int) ∧ k_1 ≤ 288 ∧ Nums (wr.setCell ⟨A, k, none⟩ (.int .i64 (x : Int))) A (.slice (some ⟨A, 0, none⟩) 288 288) (l.take k_1 ++ List.replicate (288 - k_1) 0) ∧ Kp [A] w1 (wr.setCell ⟨A, k, none⟩ (.int .i64 (x : Int)))) ∧
          288 - (intOf (.int .i64 ((k : Int) + 1))).toNat < 288 - (intOf (.int .i64 (k : Int))).toNat := by
        intro x hx
        have h1 := HSET.out x
        rw [← hx, HST.out] at h1
        rw [← hx]
        exact ⟨⟨k + 1, by go_num, by omega, h1, K.set (.inl (by simp)) _⟩, by simp [intOf]; omega⟩
      have HFIN := Lib.hid hfin
      clear hfin
      by_cases h1 : k < 144
      · have h1' : (k : Int) < 144 := by omega
        go_wp2_with fail
        exact HFIN.out 8 (by rw [if_pos h1])
      · have h1' : ¬ (k : Int) < 144 := by omega
        by_cases h2 : k < 256
        · have h2' : (k : Int) < 256 := by omega
          have h3' : ¬ (280 : Int) ≤ k := by omega
          go_wp2_with fail
          exact HFIN.out 9 (by rw [if_neg h1, if_pos h2])
        · have h2' : ¬ (k : Int) < 256 := by omega
          by_cases h3 : k < 280
          · have h3' : ¬ (280 : Int) ≤ k := by omega
            go_wp2_with fail
            exact HFIN.out 7 (by rw [if_neg h1, if_neg h2, if_pos h3])
          · have h3' : (280 : Int) ≤ k := by omega
            go_wp2_with fail
            exact HFIN.out 8 (by rw [if_neg h1, if_neg h2, if_neg h3])
    · obtain rfl : k = 288 := by omega
      have htk : l.take 288 ++ List.replicate (288 - 288) 0 = l := by rw [List.take_of_length_le (by rw [HFL.out]; exact Nat.le_refl _)]; simp
      rw [htk] at hN
      clear htk
      have R1 := hN.row.1.toO
      go_wp2_with (at_make; go_must (refine wpList_ints _ rfl _ _ rfl _ _ 32 rfl rfl rfl rfl (by omega) ?_); intro w2 hN2 O2 hlt2)
      have OW : On w wr := K.on O1 (fun x hx => by simp at hx; rw [hx, HA.out]; exact Nat.le_refl _)
      have hA2 := R1.lt
      have R1' := R1.on O2
      obtain ⟨wo, hwo⟩ : ∃ wo : World, wo = wr := ⟨_, rfl⟩
      subst hwo
      generalize hC : wo.heap.size = C at *
      have HC := Lib.hid hC
      clear hC
      have hOC := OW.size
      go_loopw [35] (fun x wp => ∃ k : Nat, x = .int .i64 (k : Int) ∧ k ≤ 32 ∧ Nums wp C (.slice (some ⟨C, 0, none⟩) 32 32) (d.take k ++ List.replicate (32 - k) 0) ∧ Kp [C] w2 wp) (fun x _ => 32 - (intOf x).toNat)
      case atStart => exact ⟨0, rfl, by omega, hN2, Kp.refl _ _⟩
      case round =>
        obtain ⟨k, rfl, hk, hM, K2⟩ := hrel
        by_cases hlt : k < 32
        · have hst := fill_step d HDL.out hlt
          rw [HDA.out k hlt] at hst
          have hll := fill_at d HDL.out hlt
          have R := hM.row.1
          have cB : wr.cell? ⟨C, k, none⟩ = some (.int .i64 ((d.take k ++ List.replicate (32 - k) 0).getD k 0 : Nat)) := R.cell (i64s_get (by rw [hll]; exact hlt))
          have fB : wr.frozen? ⟨C, k, none⟩ = false := R.frozen _
          have hset := hM.set k 5
          rw [hst] at hset
          generalize (d.take k ++ List.replicate (32 - k) 0).getD k 0 = y at *
          have hk1 : (k : Int) < 32 := by omega
          have HSET := Lib.hid hset
          clear hset hll hst
          go_wp2_with fail
          exact ⟨⟨k + 1, by go_num, by omega, HSET.out, K2.set (.inl (by simp)) _⟩, by simp [intOf]; omega⟩
        · obtain rfl : k = 32 := by omega
          have htk : d.take 32 ++ List.replicate (32 - 32) 0 = d := by rw [List.take_of_length_le (by rw [HDL.out]; exact Nat.le_refl _)]; simp
          rw [htk] at hM
          clear htk
          have R2 := hM.row.1.toO
          have R1'' := R1'.kp K2 (by simp; omega)
          go_wp2_with fail
          go_ret2
          exact ⟨A, C, rfl, R1'', R2, by rw [HA.out]; exact Nat.le_refl _, by rw [← HC.out]; exact hOC, K2.on (OW.call O2) (fun x hx => by simp at hx; rw [hx, ← HC.out]; exact hOC)⟩
set_option maxRecDepth 100000 in
set_option maxHeartbeats 1000000 in
theorem sfixed_calls (w : World) : Calls Tryd.prog 102 #[] w (GivesI w fixLit) := by
  have hfl := fixLit_length
  have hfa := fixLit_at
  generalize fixLit = l at *
  have HFL := Lib.hid hfl
  have HFA := Lib.hid hfa
  clear hfl hfa
  go_enter Tryd.func102, Tryd.ntmps102
  go_wp2_with fail
  have N0 := Nums.new w #[] [] rfl (by simp)
  have O0 := (On.refl w).alloc (.cells #[] 3)
  go_loopw [1, 2] (fun v x wr => ∃ (k r c : Nat), x = .int .i64 (k : Int) ∧ k ≤ 288 ∧ v = .slice (some ⟨r, 0, none⟩) k c ∧ Nums wr r (.slice (some ⟨r, 0, none⟩) k c) (l.take k) ∧ w.heap.size ≤ r ∧ r < wr.heap.size ∧ On w wr) (fun _ x _ => 288 - (intOf x).toNat)
  case atStart => exact ⟨0, w.heap.size, 0, rfl, by omega, rfl, N0, Nat.le_refl _, (Blk.new w _ _).lt, O0⟩
  case round =>
    obtain ⟨k, r, c, rfl, hk, rfl, hN, hrb, hrl, O⟩ := hrel
    by_cases hlt : k < 288
    · have hst := take_succ_getD l (show k < l.length by rw [HFL.out]; exact hlt)
      rw [HFA.out k hlt] at hst
      have hln : (l.take k).length = k := by rw [List.length_take, HFL.out]; omega
      generalize hcc : l.take k = cur at *
      have HCC := Lib.hid hcc
      have HST := Lib.hid hst
      have HLN := Lib.hid hln
      have hl1 : cur.length ≤ 1000000 := by omega
      have hon := O.size
      clear hcc hst hln
      by_cases h1 : k < 144
      · have h1' : (k : Int) < 144 := by omega
        go_wp2_with (at_builtin; go_must (refine wpList_nat (x := 8) rfl _ _ rfl rfl hN rfl hl1 ?_); intro r2 c2 w1 hN1 hr2 hrl2 K2 hc1 hc2)
        rw [HLN.out] at hN1
        exact ⟨⟨k + 1, r2, c2, by go_num, by omega, by rw [HLN.out], by rw [HST.out, if_pos h1]; exact hN1, by omega, hrl2, K2.on O (fun x hx => by simp at hx; omega)⟩, by simp [intOf]; omega⟩
      · have h1' : ¬ (k : Int) < 144 := by omega
        by_cases h2 : k < 256
        · have h2' : (k : Int) < 256 := by omega
          go_wp2_with (at_builtin; go_must (refine wpList_nat (x := 9) rfl _ _ rfl rfl hN rfl hl1 ?_); intro r2 c2 w1 hN1 hr2 hrl2 K2 hc1 hc2)
          rw [HLN.out] at hN1
          exact ⟨⟨k + 1, r2, c2, by go_num, by omega, by rw [HLN.out], by rw [HST.out, if_neg h1, if_pos h2]; exact hN1, by omega, hrl2, K2.on O (fun x hx => by simp at hx; omega)⟩, by simp [intOf]; omega⟩
        · have h2' : ¬ (k : Int) < 256 := by omega
          by_cases h3 : k < 280
          · have h3' : (k : Int) < 280 := by omega
            go_wp2_with (at_builtin; go_must (refine wpList_nat (x := 7) rfl _ _ rfl rfl hN rfl hl1 ?_); intro r2 c2 w1 hN1 hr2 hrl2 K2 hc1 hc2)
            rw [HLN.out] at hN1
            exact ⟨⟨k + 1, r2, c2, by go_num, by omega, by rw [HLN.out], by rw [HST.out, if_neg h1, if_neg h2, if_pos h3]; exact hN1, by omega, hrl2, K2.on O (fun x hx => by simp at hx; omega)⟩, by simp [intOf]; omega⟩
          · have h3' : ¬ (k : Int) < 280 := by omega
            go_wp2_with (at_builtin; go_must (refine wpList_nat (x := 8) rfl _ _ rfl rfl hN rfl hl1 ?_); intro r2 c2 w1 hN1 hr2 hrl2 K2 hc1 hc2)
            rw [HLN.out] at hN1
            exact ⟨⟨k + 1, r2, c2, by go_num, by omega, by rw [HLN.out], by rw [HST.out, if_neg h1, if_neg h2, if_neg h3]; exact hN1, by omega, hrl2, K2.on O (fun x hx => by simp at hx; omega)⟩, by simp [intOf]; omega⟩
    · obtain rfl : k = 288 := by omega
      have ht : l.take 288 = l := List.take_of_length_le (by rw [HFL.out]; exact Nat.le_refl _)
      rw [ht] at hN
      clear ht
      go_wp2_with fail
      go_ret
      exact ⟨r, c, by rw [HFL.out]; rfl, by rw [HFL.out]; exact hN, hrb, hrl, O⟩
set_option maxRecDepth 100000 in
set_option maxHeartbeats 1000000 in
theorem sfives_calls (w : World) : Calls Tryd.prog 103 #[] w (GivesI w fixDist) := by
  have hfl := fixDist_length
  have hfa := fixDist_at
  generalize fixDist = l at *
  have HFL := Lib.hid hfl
  have HFA := Lib.hid hfa
  clear hfl hfa
  go_enter Tryd.func103, Tryd.ntmps103
  go_wp2_with fail
  have N0 := Nums.new w #[] [] rfl (by simp)
  have O0 := (On.refl w).alloc (.cells #[] 3)
  go_loopw [1, 2] (fun v x wr => ∃ (k r c : Nat), x = .int .i64 (k : Int) ∧ k ≤ 32 ∧ v = .slice (some ⟨r, 0, none⟩) k c ∧ Nums wr r (.slice (some ⟨r, 0, none⟩) k c) (l.take k) ∧ w.heap.size ≤ r ∧ r < wr.heap.size ∧ On w wr) (fun _ x _ => 32 - (intOf x).toNat)
  case atStart => exact ⟨0, w.heap.size, 0, rfl, by omega, rfl, N0, Nat.le_refl _, (Blk.new w _ _).lt, O0⟩
  case round =>
    obtain ⟨k, r, c, rfl, hk, rfl, hN, hrb, hrl, O⟩ := hrel
    by_cases hlt : k < 32
    · have hst := take_succ_getD l (show k < l.length by rw [HFL.out]; exact hlt)
      rw [HFA.out k hlt] at hst
      have hln : (l.take k).length = k := by rw [List.length_take, HFL.out]; omega
      generalize hcc : l.take k = cur at *
      have HCC := Lib.hid hcc
      have HST := Lib.hid hst
      have HLN := Lib.hid hln
      have hl1 : cur.length ≤ 1000000 := by omega
      have hon := O.size
      clear hcc hst hln
      go_wp2_with (at_builtin; go_must (refine wpList_nat (x := 5) rfl _ _ rfl rfl hN rfl hl1 ?_); intro r2 c2 w1 hN1 hr2 hrl2 K2 hc1 hc2)
      rw [HLN.out] at hN1
      exact ⟨⟨k + 1, r2, c2, by go_num, by omega, by rw [HLN.out], by rw [HST.out]; exact hN1, by omega, hrl2, K2.on O (fun x hx => by simp at hx; omega)⟩, by simp [intOf]; omega⟩
    · obtain rfl : k = 32 := by omega
      have ht : l.take 32 = l := List.take_of_length_le (by rw [HFL.out]; exact Nat.le_refl _)
      rw [ht] at hN
      clear ht
      go_wp2_with fail
      go_ret
      exact ⟨r, c, by rw [HFL.out]; rfl, by rw [HFL.out]; exact hN, hrb, hrl, O⟩
end Go.Proofs.YtncidljdfipigaaDoor.Wi

/- The program unpacks a text: FlateGet. Conditions: the variable order as it is laid. -/
namespace Go.Proofs.YtncidljdfipigaaDoor.Wi
open Go.RowKit Go.Proofs.YtncidljdfipigaaDoor.Mem Go.Proofs.YtncidljdfipigaaDoor.Bt Go.Proofs.YtncidljdfipigaaDoor.Cd Go.Proofs.YtncidljdfipigaaDoor.De
set_option linter.unusedVariables false
set_option linter.unusedSimpArgs false
/-- What FlateGet answers. -/
def gotOf (s : ByteArray) : Value := match flate (chars s) with
  | some (o, n) => .tuple #[.string (strB o), .int .i64 (n : Int), .bool true]
  | none => .tuple #[.string ⟨#[]⟩, .int .i64 0, .bool false]
/-- What remains behind the parts. -/
def tailOf (o : List Nat) : Dec (List Nat) := next align fun _ => ret o
/-- Where the loop over parts stands. -/
structure Goes (s : ByteArray) (l : List Nat) (q : Nat) (last : Bool) : Prop where mk ::
  more : last = false → ∃ f, 6000 ≤ f + q ∧ next (parts f l) tailOf (rest s q) = whole (rest s 0)
  done : last = true → tailOf l (rest s q) = whole (rest s 0)
theorem Goes.start (s : ByteArray) : Goes s [] 0 false := ⟨fun _ => ⟨6000, by omega, rfl⟩, fun e => by cases e⟩
/-- One part has been taken: how it goes on. -/
theorem Goes.part {s : ByteArray} {l : List Nat} {q q3 t lb : Nat} (h : Goes s l q false) (hq : q ≤ 5600) (h1 : num 1 (rest s q) = some (lb, rest s (q + 1))) (h2 : num 2 (rest s (q + 1)) = some (t, rest s (q + 3))) :
    (body t l (rest s (q + 3)) = none → whole (rest s 0) = none) ∧ ∀ o, body t l (rest s (q + 3)) = some (o, rest s q3) → q + 3 ≤ q3 → Goes s o q3 (lb == 1) := by
  obtain ⟨f, hf, he⟩ := h.more rfl
  obtain ⟨f, rfl⟩ : ∃ g, f = g + 1 := ⟨f - 1, by omega⟩
  refine ⟨fun hb => ?_, fun o hb hle => ?_⟩
  · rw [← he]
    refine next_none ?_
    unfold parts
    refine next_none ?_
    unfold De.part
    rw [next_some h1, next_some h2]
    exact next_none hb
  · have e : De.part l (rest s q) = some ((o, lb), rest s q3) := by
      unfold De.part
      rw [next_some h1, next_some h2, next_some hb]; rfl
    have e2 : next (parts (f + 1) l) tailOf (rest s q) = next (if lb = 1 then ret o else parts f o) tailOf (rest s q3) := by
      unfold next
      have : parts (f + 1) l (rest s q) = (if lb = 1 then ret o else parts f o) (rest s q3) := by
        show next (De.part l) (fun p => if p.2 = 1 then ret p.1 else parts f p.1) (rest s q) = _
        rw [next_some e]
      rw [this]
    rw [e2] at he
    by_cases hl : lb = 1
    · refine ⟨fun h => by simp [hl] at h, fun _ => ?_⟩
      rw [if_pos hl] at he
      rw [← he]; rfl
    · refine ⟨fun _ => ⟨f, by omega, ?_⟩, fun h => by simp [hl] at h⟩
      rw [if_neg hl] at he
      exact he
theorem suf_le {α : Type} {d : Dec α} (L : De.Loc d) {s : ByteArray} {q q3 : Nat} {x : α} (h : d (rest s q) = some (x, rest s q3)) (h1 : q ≤ 8 * s.size) (h3 : q3 ≤ 8 * s.size) : q ≤ q3 := by
  obtain ⟨e, he⟩ := L.suf _ _ _ h
  have := congrArg List.length he
  rw [List.length_append, rest_length, rest_length] at this
  omega
theorem num_of {s : ByteArray} {q n x q1 : Nat} (h : Ans (num n) s q false x q1 false) : num n (rest s q) = some (x, rest s q1) := (h.good rfl).2
theorem flate_of {s : ByteArray} {o : List Nat} {q : Nat} (hs : s.size ≤ 700) (hq : q ≤ 8 * s.size) (h : whole (rest s 0) = some (o, rest s q)) : flate (chars s) = some (o, s.size - (8 * s.size - q) / 8) := by
  unfold flate
  rw [if_neg (by rw [chars_length]; omega)]
  have e : unpack (chars s) = rest s 0 := by unfold rest; rw [List.drop_zero]
  rw [e, h]
  simp only [chars_length, rest_length]
theorem flate_not {s : ByteArray} (h : whole (rest s 0) = none) : flate (chars s) = none := by
  unfold flate
  have e : unpack (chars s) = rest s 0 := by unfold rest; rw [List.drop_zero]
  rw [e, h]
  split <;> rfl
theorem Goes.none {s : ByteArray} {l : List Nat} {q : Nat} (h : Goes s l q false) (hq : q ≤ 5600) (hp : De.part l (rest s q) = Option.none) : whole (rest s 0) = Option.none := by
  obtain ⟨f, hf, he⟩ := h.more rfl
  obtain ⟨f, rfl⟩ : ∃ g, f = g + 1 := ⟨f - 1, by omega⟩
  rw [← he]
  refine next_none ?_
  unfold parts
  exact next_none hp
/-- One part, as the reader answers it. -/
theorem Goes.step {s : ByteArray} {l l' : List Nat} {q q1 q2 q3 lb t : Nat} {b1 b2 b3 : Bool} (h : Goes s l q false) (hq : q ≤ 5600) (A1 : Ans (num 1) s q false lb q1 b1) (A2 : Ans (num 2) s q1 b1 t q2 b2) (A3 : AnsO (body t l) s q2 b2 l' q3 b3)
    (e1 : b1 = false → q1 = q + 1) (e2 : b2 = false → q2 = q1 + 2) (hle : b3 = false → l'.length ≤ 300 → q2 ≤ q3) :
    (b3 = true → whole (rest s 0) = Option.none) ∧ (b3 = false → 300 < l'.length → whole (rest s 0) = Option.none) ∧ (b3 = false → l'.length ≤ 300 → Goes s l' q3 (lb == 1)) := by
  have hb2 : b2 = true → whole (rest s 0) = Option.none := fun e => by
    refine h.none hq ?_
    rcases (Ans.next A1 (k := fun _ => num 2) A2).bad e with c | c
    · cases c
    · unfold De.part
      cases hn : num 1 (rest s q) with
      | none => exact next_none hn
      | some y =>
        rw [next_some hn]
        rw [next_some hn] at c
        exact next_none c
  have hg : b2 = false → num 1 (rest s q) = some (lb, rest s (q + 1)) ∧ num 2 (rest s (q + 1)) = some (t, rest s (q + 3)) ∧ q2 = q + 3 := fun e => by
    obtain ⟨c1, c2⟩ := A2.good e
    obtain ⟨_, c3⟩ := A1.good c1
    have f1 := e1 c1
    have f2 := e2 e
    subst f1
    rw [show q2 = q + 3 from by omega] at c2
    exact ⟨c3, c2, by omega⟩
  have hgo : b2 = false → (body t l (rest s (q + 3)) = Option.none → whole (rest s 0) = Option.none) ∧ ∀ o, body t l (rest s (q + 3)) = some (o, rest s q3) → q + 3 ≤ q3 → Goes s o q3 (lb == 1) := fun e => by
    obtain ⟨n1, n2, _⟩ := hg e
    exact h.part hq n1 n2
  refine ⟨fun e => ?_, fun e hl => ?_, fun e hl => ?_⟩
  · rcases A3.bad e with c | c
    · exact hb2 c
    · cases hb : b2 with
      | true => exact hb2 hb
      | false => rw [(hg hb).2.2] at c; exact (hgo hb).1 c
  · obtain ⟨c1, _, c3⟩ := A3.good e
    have := c3 hl
    rw [(hg c1).2.2] at this
    exact (hgo c1).1 this
  · obtain ⟨c1, c2, _⟩ := A3.good e
    have h2 := c2 hl
    have h3 := hle e hl
    rw [(hg c1).2.2] at h2 h3
    exact (hgo c1).2 l' h2 h3
theorem By.new (w : World) : By (w.alloc (.cells #[] 5)) w.heap.size 0 [] := by
  refine ⟨⟨?_, fun g hg => by simp [Value.ownBlock] at hg; exact hg.symm⟩⟩
  have := World.ownsRow_lit w (base := 0) (e := 5) (size := 1) #[] 0 (Nat.zero_le _) (by unfold maxLen; omega) (by simp)
  exact this
/-- How far the loop still may go. -/
def farOf (s : ByteArray) (g : Nat) (w : World) (lb : Value) : Nat := (match w.cell? ⟨g, 1, none⟩ with | some y => 8 * s.size - (intOf y).toNat | none => 0) + (match lb with | .bool false => 1 | _ => 0)
theorem farOf_lt {w w' : World} {g q q' : Nat} {s : ByteArray} {b b' l' : Bool} (h : IR w g s q b) (h' : IR w' g s q' b') (hq : q + 3 ≤ q') : farOf s g w' (.bool l') < farOf s g w (.bool false) := by
  have h1 := h'.le
  unfold farOf
  rw [(h.out.cell 1).trans rfl, (h'.out.cell 1).trans rfl]
  have e : ∀ n : Nat, (intOf (.int .i64 (n : Int))).toNat = n := fun n => Int.toNat_natCast n
  show 8 * s.size - (intOf (.int .i64 (q' : Int))).toNat + _ < 8 * s.size - (intOf (.int .i64 (q : Int))).toNat + 1
  rw [e, e]
  cases l'
  · show 8 * s.size - q' + 1 < _
    omega
  · show 8 * s.size - q' + 0 < _
    omega
theorem far_of {s : ByteArray} {l l' : List Nat} {q q1 q2 q3 lb t : Nat} {b1 b2 : Bool} (A1 : Ans (num 1) s q false lb q1 b1) (A2 : Ans (num 2) s q1 b1 t q2 b2) (A3 : AnsO (body t l) s q2 b2 l' q3 false)
    (e1 : b1 = false → q1 = q + 1) (e2 : b2 = false → q2 = q1 + 2) (hle : l'.length ≤ 300 → q2 ≤ q3) : l'.length ≤ 300 → q + 3 ≤ q3 := fun h => by
  have c := (A3.good rfl).1
  have f2 := e2 c
  have f1 := e1 (A2.good c).1
  have := hle h
  omega
theorem ok_fix : okLens fixLit = true ∧ okLens fixDist = true := by decide +kernel
theorem fix_le : (∀ x ∈ fixLit, x ≤ 100000) ∧ ∀ x ∈ fixDist, x ≤ 100000 := by decide +kernel
/-- Lengths that may be bad, and what is packed by them. -/
def packed2 (l lit dist : List Nat) : Dec (List Nat) := if okLens lit = true ∧ okLens dist = true then packed lit dist 302 l else De.bad
theorem body_fix (l : List Nat) : body 1 l = packed2 l fixLit fixDist := by
  unfold packed2
  rw [if_pos ok_fix]; rfl
theorem body_own (l : List Nat) : body 2 l = next ownRaw (fun p => packed2 l p.1 p.2) := by
  funext bs
  exact own_raw (fun p => packed p.1 p.2 302 l) bs
theorem packed_any (g r cap n : Nat) (s : ByteArray) (p : Nat) (b : Bool) (l lit dist : List Nat) (v1 v2 : Value) (w : World) (hw : IR w g s p b) (hb : By w r cap l) (hn : l.length = n) (hn2 : n ≤ 300) (hgr : g ≠ r)
    (H : b = false → ∃ gl ol nl cl gd od nd cd : Nat, v1 = .slice (some ⟨gl, ol, none⟩) nl cl ∧ v2 = .slice (some ⟨gd, od, none⟩) nd cd ∧ RowO w gl ol 3 (i64s lit) ∧ RowO w gd od 3 (i64s dist) ∧ lit.length = nl ∧ dist.length = nd ∧ nl ≤ cl ∧ nd ≤ cd ∧
      (∀ x ∈ lit, x ≤ 100000) ∧ (∀ x ∈ dist, x ≤ 100000) ∧ nl ≤ 288 ∧ nd ≤ 300 ∧ (gl ≠ g ∧ gl ≠ r) ∧ (gd ≠ g ∧ gd ≠ r)) :
    Calls Tryd.prog 55 #[.pointer (some ⟨g, 0, none⟩), .slice (some ⟨r, 0, none⟩) n cap, v1, v2] w fun e w' => ∃ v, e = .returned v ∧ Out (packed2 l lit dist) s p b g r w v w' := by
  cases b with
  | true =>
    refine (rpacked_bad g s p _ _ _ w hw).mono ?_
    rintro e w' ⟨rfl, h1, K⟩
    exact ⟨_, rfl, ⟨p, true, r, cap, l, h1, K.mono (fun y hy => .inl (by simp at hy ⊢; exact .inl hy)), .inl rfl, ⟨fun _ => .inl rfl, fun e => by cases e⟩, fun e => by cases e⟩⟩
  | false =>
    obtain ⟨gl, ol, nl, cl, gd, od, nd, cd, rfl, rfl, h1, h2, h3, h4, h5, h6, h7, h8, h9, h10, h11, h12⟩ := H rfl
    unfold packed2
    by_cases hok : okLens lit = true ∧ okLens dist = true
    · rw [if_pos hok]
      exact rpacked_calls g r cap n gl ol nl cl gd od nd cd s p l lit dist w hw hb hn hn2 hgr h1 h2 h3 h4 h5 h6 h7 h8 h9 h10 h11 h12 hok.1 hok.2
    · rw [if_neg hok]
      refine (rpacked_not g gl ol nl cl gd od nd cd s p lit dist _ w hw h1 h2 h3 h4 h5 h6 h7 h8 (by omega) (by omega) hok).mono ?_
      rintro e w' ⟨rfl, k1, K⟩
      exact ⟨_, rfl, ⟨p, true, r, cap, l, k1, K.mono (fun y hy => .inl (by simp at hy ⊢; exact .inl hy)), .inl rfl, ⟨fun _ => .inr rfl, fun e => by cases e⟩, fun e => by cases e⟩⟩
set_option maxRecDepth 100000 in
set_option maxHeartbeats 2000000 in
theorem flateget_calls (x : Addr) (s : ByteArray) (w : World) (hO : Ord w x) :
    Calls Tryd.prog 24 #[.string s] w fun e w' => e = .returned (gotOf s) ∧ On w w' := by
  by_cases h7 : 700 < s.size
  · have h7' : (700 : Int) < s.size := by omega
    have HR : RowKit.Hid (gotOf s = .tuple #[.string ⟨#[]⟩, .int .i64 0, .bool false]) := Lib.hid (by unfold gotOf flate; rw [if_pos (by rw [chars_length]; exact h7)])
    go_enter Tryd.func24, Tryd.ntmps24
    go_wp2_with fail
    go_ret3
    exact ⟨by rw [HR.out]; rfl, On.refl _⟩
  have h7' : ¬ (700 : Int) < s.size := by omega
  go_enter Tryd.func24, Tryd.ntmps24
  have BR := Blk.new w 54 #[.string s, .int .i64 0, .bool false]
  have OR := (On.refl w).alloc (.cells #[.string s, .int .i64 0, .bool false] 54)
  go_wp2_with fail
  have hw1 : IR (w.alloc (.cells #[.string s, .int .i64 0, .bool false] 54)) w.heap.size s 0 false := ⟨BR, by omega, by omega⟩
  have hO1 := hO.kp (Kp.of [] OR) (by simp) (by simp)
  have hGlt := hO.glt
  have hXlt := hO.lt
  have hz1 := OR.size
  have hg1 := BR.lt
  have hsz1 : (w.alloc (.cells #[.string s, .int .i64 0, .bool false] 54)).heap.size = w.heap.size + 1 := Array.size_push _
  generalize hg : w.heap.size = g at *
  generalize w.alloc (.cells #[.string s, .int .i64 0, .bool false] 54) = w1 at *
  have B2 := By.new w1
  have O2 := (On.refl w1).alloc (.cells #[] 5)
  rw [hsz1] at B2
  have hw2 := hw1.on O2
  have hO2 := hO1.kp (Kp.of [] O2) (by simp) (by simp)
  generalize w1.alloc (.cells #[] 5) = w2 at *
  go_loopw [6, 7] (fun o lb wr => ∃ (q r cap : Nat) (l : List Nat) (last : Bool), o = .slice (some ⟨r, 0, none⟩) l.length cap ∧ lb = .bool last ∧ IR wr g s q false ∧ By wr r cap l ∧ Kp [g, g + 1] w2 wr ∧ (r = g + 1 ∨ w2.heap.size ≤ r) ∧ l.length ≤ 300 ∧ Goes s l q last) (fun _ lb wr => farOf s g wr lb)
  case atStart => exact ⟨0, g + 1, 0, [], false, rfl, rfl, hw2, B2, Kp.refl _ _, .inl rfl, by simp, Goes.start s⟩
  case round =>
    obtain ⟨q, r, cap, l, last, rfl, rfl, hr, hB, K, hra, hl3, G⟩ := hrel
    have hgr : g ≠ r := by have := O2.size; omega
    cases last with
    | true =>
      have HE := Lib.hid (reven_calls g s q false wr hr)
      have AE := Lib.hid (ans_align (b := false) hr.le)
      go_wp2_with fail
      refine HE.out.mono ?_
      rintro e w3 ⟨rfl, hr3, K3⟩
      have hB3 := hB.kp K3 (by simpa using Ne.symm hgr)
      have d1 := (hr3.out.cell 1).trans rfl
      have d2 := (hr3.out.cell 2).trans rfl
      have KW : Kp [g, g + 1] w2 w3 := K.then (K3.mono (fun y hy => .inl (by simp at hy ⊢; exact .inl hy)))
      have OW : On w w3 := KW.on (OR.call O2) (fun y hy => by simp at hy; omega)
      have hqe := hr3.le
      cases hp : padOk s q with
      | false =>
        rw [hp] at AE d2
        have hfl : flate (chars s) = none := flate_not (by
          rw [← G.done rfl]
          rcases AE.out.bad rfl with e | e
          · cases e
          · exact next_none e)
        have HR : RowKit.Hid (gotOf s = .tuple #[.string ⟨#[]⟩, .int .i64 0, .bool false]) := Lib.hid (by unfold gotOf; rw [hfl])
        clear hfl
        go_wp2_with fail
        go_ret3
        exact ⟨by rw [HR.out]; rfl, OW⟩
      | true =>
        rw [hp] at AE d2
        have hfl := flate_of (o := l) (q := evenAt q) (by omega) hqe (by rw [← G.done rfl]; exact next_some (AE.out.good rfl).2)
        have e8 : s.size - (8 * s.size - evenAt q) / 8 = evenAt q / 8 := by unfold evenAt at *; omega
        rw [e8] at hfl
        have HR : RowKit.Hid (gotOf s = .tuple #[.string (strB l), .int .i64 ((evenAt q / 8 : Nat) : Int), .bool true]) := Lib.hid (by unfold gotOf; rw [hfl])
        clear hfl e8
        have cv := bytes_conv hB3.out
        have cvd := fun n => bytes_conv (hB3.on ((On.refl w3).drewN n)).out
        have cvr := bytes_conv (hB3.on ((On.refl w3).drew)).out
        have e1 : Int.tdiv ((evenAt q : Nat) : Int) 8 = ((evenAt q / 8 : Nat) : Int) := tdiv_nat (evenAt q) 8
        have e2 : IntKind.i64.wrap (((evenAt q : Nat) : Int) / 8) = ((evenAt q / 8 : Nat) : Int) := by rw [IntKind.wrap_i64]; omega
        have hn8 : evenAt q / 8 ≤ 1000000 := by omega
        generalize evenAt q / 8 = n8 at *
        generalize evenAt q = qe at *
        go_wp2_with fail
        go_quiet (fail)
        go_wp2_with fail
        go_ret3
        exact ⟨by rw [HR.out]; rfl, OW.drewN _⟩
    | false =>
      have HE := Lib.hid (bit_calls g s q false wr hr)
      have A1 := Lib.hid (ans_num (n := 1) (b := false) hr.le)
      have hv1 := numAt_lt s q 1
      have hqle := hr.le
      obtain ⟨q1, hq1⟩ : ∃ q1, min (q + 1) (8 * s.size) = q1 := ⟨_, rfl⟩
      obtain ⟨b1, hb1⟩ : ∃ b1, (false || decide (8 * s.size < q + 1)) = b1 := ⟨_, rfl⟩
      have E1 : RowKit.Hid (b1 = false → q1 = q + 1) := Lib.hid (fun e => by rw [e] at hb1; simp at hb1; omega)
      rw [hq1, hb1] at A1 HE
      clear hq1 hb1
      generalize numAt s q 1 = lb at *
      go_wp2_with fail
      refine HE.out.mono ?_
      rintro e w3 ⟨rfl, hr3, K3⟩
      have HE2 := Lib.hid (get_calls g 2 s q1 b1 w3 hr3 (by omega))
      have A2 := Lib.hid (ans_num (n := 2) (b := b1) hr3.le)
      have hv2 := numAt_lt s q1 2
      obtain ⟨q2, hq2⟩ : ∃ q2, min (q1 + 2) (8 * s.size) = q2 := ⟨_, rfl⟩
      obtain ⟨b2, hb2⟩ : ∃ b2, (b1 || decide (8 * s.size < q1 + 2)) = b2 := ⟨_, rfl⟩
      have E2 : RowKit.Hid (b2 = false → q2 = q1 + 2) := Lib.hid (fun e => by rw [e] at hb2; simp at hb2; omega)
      rw [hq2, hb2] at A2 HE2
      clear hq2 hb2
      generalize numAt s q1 2 = t at *
      go_wp2_with fail
      refine HE2.out.mono ?_
      rintro e w4 ⟨rfl, hr4, K4⟩
      have K34 := K3.then K4
      have hB4 := hB.kp K34 (by simpa using Ne.symm hgr)
      have HGS := Lib.hid (fun l' q3 b3 A3 h3 => G.step (l' := l') (q3 := q3) (b3 := b3) (by omega) A1.out A2.out A3 E1.out E2.out h3)
      have KA := K.then (K34.mono (fun y hy => .inl (by simp at hy ⊢; exact .inl hy)))
      have hz4 := KA.size
      have hz34 := K34.size
      by_cases ht0 : t = 0
      · subst ht0
        go_wp2_with fail
        refine (rstored_calls g r cap l.length s q2 b2 l w4 hr4 hB4 rfl hl3 hgr).mono ?_
        rintro e w5 ⟨v, rfl, ⟨q3, b3, r3, cap3, l3, hr5, K5, hr3', A3, hgood⟩⟩
        have KW : Kp [g, g + 1] w2 w5 := KA.trans K5 (fun y hy => by simp at hy ⊢; omega)
        obtain ⟨s1, s2, s3⟩ := HGS.out l3 q3 b3 A3 (fun e h => suf_le (Loc.stored l) ((A3.good e).2.1 h) hr4.le hr5.le)
        have S1 := Lib.hid s1
        have S2 := Lib.hid s2
        have S3 := Lib.hid s3
        clear s1 s2 s3
        have S4 := Lib.hid (fun (e : b3 = false) => far_of A1.out A2.out (e ▸ A3) E1.out E2.out (fun h => suf_le (Loc.stored l) ((A3.good e).2.1 h) hr4.le hr5.le))
        have d5 := (hr5.out.cell 2).trans rfl
        have OW : On w w5 := KW.on (OR.call O2) (fun y hy => by simp at hy; omega)
        cases b3 with
        | true =>
          go_wp2_with fail
          go_ret3
          exact ⟨by unfold gotOf; rw [flate_not (by first | exact S1.out rfl | exact S1.out trivial)]; rfl, OW⟩
        | false =>
          obtain ⟨rfl, hB5, hl5⟩ := hgood rfl
          by_cases hl6 : 300 < l3.length
          · have hl6' : (300 : Int) < (l3.length : Int) := by omega
            go_wp2_with fail
            go_ret3
            exact ⟨by unfold gotOf; rw [flate_not (by first | exact S2.out rfl hl6 | exact S2.out trivial hl6)]; rfl, OW⟩
          · have hl6' : decide ((300 : Int) < (l3.length : Int)) = false := by simp; omega
            have G5 : RowKit.Hid (Goes s l3 q3 (lb == 1)) := Lib.hid (by first | exact S3.out rfl (by omega) | exact S3.out trivial (by omega))
            have FR : RowKit.Hid (farOf s g w5 (.bool (lb == 1)) < farOf s g wr (.bool false)) := Lib.hid (farOf_lt hr hr5 (by first | exact S4.out rfl (by omega) | exact S4.out trivial (by omega)))
            have RA3 : RowKit.Hid (r3 = g + 1 ∨ w2.heap.size ≤ r3) := Lib.hid (by omega)
            go_wp2_with fail
            have hlb : Value.bool ((lb : Int) == 1) = Value.bool (lb == 1) := by congr 1; rw [Bool.eq_iff_iff]; simp; omega
            rw [hlb]
            exact ⟨⟨q3, r3, cap3, l3, lb == 1, rfl, rfl, hr5, hB5, KW, RA3.out, by omega, G5.out⟩, FR.out⟩
      by_cases ht1 : t = 1
      · subst ht1
        go_wp2_with fail
        refine (ifixed_calls w4).mono ?_
        rintro e wf ⟨ra, rb, rfl, RA, RB, ra1, rb1, Of⟩
        have hzf := Of.size
        have hg4 := hr4.out.lt
        have hr4l := hB4.lt
        go_wp2_with fail
        refine (packed_any g r cap l.length s q2 b2 l fixLit fixDist _ _ wf (hr4.on Of) (hB4.on Of) rfl hl3 hgr (fun _ => ⟨ra, 0, 288, 288, rb, 0, 32, 32, rfl, rfl, RA, RB, fixLit_length, fixDist_length, by omega, by omega, fix_le.1, fix_le.2, by omega, by omega, ⟨by omega, by omega⟩, ⟨by omega, by omega⟩⟩)).mono ?_
        rintro e w5 ⟨v, rfl, ⟨q3, b3, r3, cap3, l3, hr5, K5, hr3', A3, hgood⟩⟩
        rw [← body_fix] at A3
        have KW : Kp [g, g + 1] w2 w5 := (KA.then (Kp.of _ Of)).trans K5 (fun y hy => by simp at hy ⊢; omega)
        obtain ⟨s1, s2, s3⟩ := HGS.out l3 q3 b3 A3 (fun e h => suf_le (Loc.body 1 l) ((A3.good e).2.1 h) hr4.le hr5.le)
        have S1 := Lib.hid s1
        have S2 := Lib.hid s2
        have S3 := Lib.hid s3
        clear s1 s2 s3
        have S4 := Lib.hid (fun (e : b3 = false) => far_of A1.out A2.out (e ▸ A3) E1.out E2.out (fun h => suf_le (Loc.body 1 l) ((A3.good e).2.1 h) hr4.le hr5.le))
        have d5 := (hr5.out.cell 2).trans rfl
        have OW : On w w5 := KW.on (OR.call O2) (fun y hy => by simp at hy; omega)
        cases b3 with
        | true =>
          go_wp2_with fail
          go_ret3
          exact ⟨by unfold gotOf; rw [flate_not (by first | exact S1.out rfl | exact S1.out trivial)]; rfl, OW⟩
        | false =>
          obtain ⟨rfl, hB5, hl5⟩ := hgood rfl
          by_cases hl6 : 300 < l3.length
          · have hl6' : (300 : Int) < (l3.length : Int) := by omega
            go_wp2_with fail
            go_ret3
            exact ⟨by unfold gotOf; rw [flate_not (by first | exact S2.out rfl hl6 | exact S2.out trivial hl6)]; rfl, OW⟩
          · have hl6' : decide ((300 : Int) < (l3.length : Int)) = false := by simp; omega
            have G5 : RowKit.Hid (Goes s l3 q3 (lb == 1)) := Lib.hid (by first | exact S3.out rfl (by omega) | exact S3.out trivial (by omega))
            have FR : RowKit.Hid (farOf s g w5 (.bool (lb == 1)) < farOf s g wr (.bool false)) := Lib.hid (farOf_lt hr hr5 (by first | exact S4.out rfl (by omega) | exact S4.out trivial (by omega)))
            have RA3 : RowKit.Hid (r3 = g + 1 ∨ w2.heap.size ≤ r3) := Lib.hid (by omega)
            go_wp2_with fail
            have hlb : Value.bool ((lb : Int) == 1) = Value.bool (lb == 1) := by congr 1; rw [Bool.eq_iff_iff]; simp; omega
            rw [hlb]
            exact ⟨⟨q3, r3, cap3, l3, lb == 1, rfl, rfl, hr5, hB5, KW, RA3.out, by omega, G5.out⟩, FR.out⟩
      by_cases ht2 : t = 2
      · subst ht2
        go_wp2_with fail
        have hO4 := hO2.kp KA (by simp; omega) (by simp; omega)
        refine (rlens_calls g x s q2 b2 w4 hr4 hO4 (by omega) (by omega)).mono ?_
        rintro e wf ⟨v1, v2, qf, bf, lit, dist, rfl, hrf, Af, Kf, hlens⟩
        have hzf := Kf.size
        have hg4 := hr4.out.lt
        have hr4l := hB4.lt
        have hBf := hB4.kp Kf (by simpa using Ne.symm hgr)
        go_wp2_with fail
        refine (packed_any g r cap l.length s qf bf l lit dist _ _ wf hrf hBf rfl hl3 hgr (fun e => by
          obtain ⟨rr, n, c, rfl, rfl, h1, h2, h3, h4, R1, R2, m1, m2, h5⟩ := hlens e
          exact ⟨rr, 0, lit.length, n, rr, lit.length, dist.length, c, rfl, rfl, R1, R2, rfl, rfl, h3, h4, fun y hy => by have := m1 y hy; omega, fun y hy => by have := m2 y hy; omega, by omega, by omega, ⟨by omega, by omega⟩, ⟨by omega, by omega⟩⟩)).mono ?_
        rintro e w5 ⟨v, rfl, ⟨q3, b3, r3, cap3, l3, hr5, K5, hr3', A3', hgood⟩⟩
        have A3 : AnsO (body 2 l) s q2 b2 l3 q3 b3 := by rw [body_own]; exact AnsO.next Af A3'
        have KW : Kp [g, g + 1] w2 w5 := (KA.then (Kf.mono (fun y hy => .inl (by simp at hy ⊢; exact .inl hy)))).trans K5 (fun y hy => by simp at hy ⊢; omega)
        obtain ⟨s1, s2, s3⟩ := HGS.out l3 q3 b3 A3 (fun e h => suf_le (Loc.body 2 l) ((A3.good e).2.1 h) hr4.le hr5.le)
        have S1 := Lib.hid s1
        have S2 := Lib.hid s2
        have S3 := Lib.hid s3
        clear s1 s2 s3
        have S4 := Lib.hid (fun (e : b3 = false) => far_of A1.out A2.out (e ▸ A3) E1.out E2.out (fun h => suf_le (Loc.body 2 l) ((A3.good e).2.1 h) hr4.le hr5.le))
        have d5 := (hr5.out.cell 2).trans rfl
        have OW : On w w5 := KW.on (OR.call O2) (fun y hy => by simp at hy; omega)
        cases b3 with
        | true =>
          go_wp2_with fail
          go_ret3
          exact ⟨by unfold gotOf; rw [flate_not (by first | exact S1.out rfl | exact S1.out trivial)]; rfl, OW⟩
        | false =>
          obtain ⟨rfl, hB5, hl5⟩ := hgood rfl
          by_cases hl6 : 300 < l3.length
          · have hl6' : (300 : Int) < (l3.length : Int) := by omega
            go_wp2_with fail
            go_ret3
            exact ⟨by unfold gotOf; rw [flate_not (by first | exact S2.out rfl hl6 | exact S2.out trivial hl6)]; rfl, OW⟩
          · have hl6' : decide ((300 : Int) < (l3.length : Int)) = false := by simp; omega
            have G5 : RowKit.Hid (Goes s l3 q3 (lb == 1)) := Lib.hid (by first | exact S3.out rfl (by omega) | exact S3.out trivial (by omega))
            have FR : RowKit.Hid (farOf s g w5 (.bool (lb == 1)) < farOf s g wr (.bool false)) := Lib.hid (farOf_lt hr hr5 (by first | exact S4.out rfl (by omega) | exact S4.out trivial (by omega)))
            have RA3 : RowKit.Hid (r3 = g + 1 ∨ w2.heap.size ≤ r3) := Lib.hid (by omega)
            go_wp2_with fail
            have hlb : Value.bool ((lb : Int) == 1) = Value.bool (lb == 1) := by congr 1; rw [Bool.eq_iff_iff]; simp; omega
            rw [hlb]
            exact ⟨⟨q3, r3, cap3, l3, lb == 1, rfl, rfl, hr5, hB5, KW, RA3.out, by omega, G5.out⟩, FR.out⟩
      · have hb0 : body t l = De.bad := by unfold body; rw [if_neg ht0, if_neg ht1, if_neg ht2]
        have FN : RowKit.Hid (flate (chars s) = none) := Lib.hid (flate_not ((HGS.out l q2 true ⟨fun _ => .inr (by rw [hb0]; rfl), fun e => by cases e⟩ (fun e => by cases e)).1 rfl))
        have KW : Kp [g, g + 1] w2 (w4.setCell ⟨g, 2, none⟩ (.bool true)) := KA.set (.inl (by simp)) _
        have OW : On w (w4.setCell ⟨g, 2, none⟩ (.bool true)) := KW.on (OR.call O2) (fun y hy => by simp at hy; omega)
        have fr : ∀ i, w4.frozen? ⟨g, i, none⟩ = false := hr4.out.frozen
        have d2 := (hr4.out.cell 2).trans rfl
        go_wp2_with fail
        go_ret3
        exact ⟨by unfold gotOf; rw [FN.out]; rfl, OW⟩
end Go.Proofs.YtncidljdfipigaaDoor.Wi

