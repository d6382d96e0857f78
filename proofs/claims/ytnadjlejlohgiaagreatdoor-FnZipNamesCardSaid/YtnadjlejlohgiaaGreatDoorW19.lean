/- Own texts joined: Sm. -/
import Derived.Test.YtnadjlejlohgiaaGreatDoorW15
import Derived.Test.YtnadjlejlohgiaaGreatDoorW18
/- The specification's reader takes a number again, as often as a symbol tells. Conditions: a reader, numbers, a symbol. -/
namespace Go.Proofs.YtnadjlejlohgiaaGreatDoor.Wi
open Go.RowKit Go.Proofs.YtnadjlejlohgiaaGreatDoor.Mem Go.Proofs.YtnadjlejlohgiaaGreatDoor.Bt Go.Proofs.YtnadjlejlohgiaaGreatDoor.Cd Go.Proofs.YtnadjlejlohgiaaGreatDoor.De
set_option linter.unusedVariables false
set_option linter.unusedSimpArgs false
/-- What a symbol of lengths adds. -/
def stepD (x : Nat) (all : List Nat) : Dec (List Nat) :=
  if x < 16 then De.ret (all ++ List.replicate 1 x) else if x = 16 then De.next (num 2) fun y => (if all.length = 0 then De.bad else De.ret (all ++ List.replicate (3 + y) (all.getD (all.length - 1) 0)))
    else if x = 17 then De.next (num 3) fun y => De.ret (all ++ List.replicate (3 + y) 0) else De.next (num 7) fun y => De.ret (all ++ List.replicate (11 + y) 0)
/-- What many leaves. -/
structure ManyOut (x : Nat) (all : List Nat) (s : ByteArray) (p : Nat) (b : Bool) (g r : Nat) (w : World) (e : Ending) (w' : World) : Prop where mk ::
  out : ∃ (p' : Nat) (b' : Bool) (r' cap' : Nat) (l' : List Nat), e = .returned (.slice (some ⟨r', 0, none⟩) l'.length cap') ∧ SR w' g s p' b' ∧ Nums w' r' (.slice (some ⟨r', 0, none⟩) l'.length cap') l' ∧ Kp [g, r] w w' ∧ (r' = r ∨ w.heap.size ≤ r') ∧ Ans (stepD x all) s p b l' p' b' ∧
    (b' = false → ∃ M AG, l' = all ++ List.replicate M AG ∧ 1 ≤ M ∧ M ≤ 138 ∧ AG ≤ 15) ∧ (b' = true → l' = all)
set_option maxRecDepth 100000 in
set_option maxHeartbeats 4000000 in
theorem smany_calls (g r cap n x : Nat) (v : Int) (s : ByteArray) (p : Nat) (b : Bool) (all : List Nat) (w : World) (hw : SR w g s p b) (hN : Nums w r (.slice (some ⟨r, 0, none⟩) n cap) all) (hn : all.length = n) (hn2 : n ≤ 1000) (hgr : g ≠ r)
    (h15 : ∀ y ∈ all, y ≤ 15) (hv1 : -1 ≤ v) (hv2 : v ≤ 1000) (hvx : b = false → v = x ∧ x < 19) :
    Calls Tryz.prog 176 #[.pointer (some ⟨g, 0, none⟩), .slice (some ⟨r, 0, none⟩) n cap, .int .i64 v] w fun e w' => ManyOut x all s p b g r w e w' := by
  have HN := Lib.hid hn
  have HVX := Lib.hid hvx
  have H15 := Lib.hid h15
  have hgw := hw.out.lt
  clear hn hvx h15
  go_enter Tryz.func176, Tryz.ntmps176
  by_cases v16 : v = 16
  · have v16' : (v == 16) = true := by simp [v16]
    have hx16 : RowKit.Hid (b = false → x = 16) := Lib.hid (fun e => by have := HVX.out e; omega)
    clear v16
    by_cases hn0 : n = 0
    · subst hn0
      obtain ⟨q5, hq5⟩ : ∃ q5, q5 = p := ⟨_, rfl⟩
      have d0 : w.cell? ⟨g, 2, none⟩ = some (.bool b) := (hw.out.cell 2).trans rfl
      have fr : ∀ i, w.frozen? ⟨g, i, none⟩ = false := hw.out.frozen
      have hrX : SR (w.setCell ⟨g, 2, none⟩ (.bool true)) g s p true := ⟨hw.out.set 2 (.bool true), hw.le, hw.sz⟩
      have KX : Kp [g] w (w.setCell ⟨g, 2, none⟩ (.bool true)) := (Kp.refl _ _).set (.inl (by simp)) _
      have hNX := hN.kp KX (by simpa using Ne.symm hgr)
      have HANS : RowKit.Hid (∀ z, Ans (stepD x all) s p b z q5 true) := Lib.hid (fun z => by
        refine ⟨fun _ => ?_, fun e => (by cases e)⟩
        cases b with
        | true => exact .inl rfl
        | false =>
          right
          rw [hx16.out rfl]
          unfold stepD
          rw [if_neg (by omega), if_pos rfl]
          cases h : num 2 (rest s p) with
          | none => exact next_none h
          | some z => rw [next_some h, if_pos HN.out]; rfl)
      go_wp2_with fail
      generalize w.setCell ⟨g, 2, none⟩ (.bool true) = wX at *
      rw [← hq5] at hrX
      have dX : wX.cell? ⟨g, 2, none⟩ = some (.bool true) := (hrX.out.cell 2).trans rfl
      go_loopw [1, 9] (fun o kx wr2 => kx = .int .i64 0 ∧ o = .slice (some ⟨r, 0, none⟩) 0 cap ∧ wr2 = wX) (fun _ _ _ => 0)
      case atStart => exact ⟨rfl, rfl, rfl⟩
      case round =>
        obtain ⟨rfl, rfl, hwX⟩ := hrel
        obtain rfl : wX = wr := hwX.symm
        go_wp2_with fail
        all_goals
          go_ret
          exact ⟨q5, true, r, cap, all, by rw [HN.out]; rfl, hrX, by rw [HN.out]; exact hNX, KX.mono (fun y hy => .inl (by simp at hy ⊢; exact .inl hy)), .inl rfl, HANS.out _, fun e => (by cases e), fun _ => rfl⟩
    · have hn0' : ((n : Int) == 0) = false := by simp; omega
      have hn1 : n - 1 < all.length := by rw [HN.out]; omega
      have cl := hN.row.1.cell (i64s_get hn1)
      have hl15 : all.getD (n - 1) 0 ≤ 15 := getD_le H15.out _
      have e9 : IntKind.i64.wrap ((n : Int) - 1) = ((n - 1 : Nat) : Int) := by rw [IntKind.wrap_i64]; omega
      have hn1' : ((n - 1 : Nat) : Int) < n := by omega
      have hncap := hN.row.2.2.1
      clear hn1
      have HG := Lib.hid (snum_calls g 2 s p b w hw (by omega))
      have A1 := Lib.hid (ans_num (n := 2) (b := b) hw.le)
      have hv := numAt_lt s p 2
      generalize numAt s p 2 = y at *
      generalize min (p + 2) (8 * s.size) = q5 at *
      generalize (b || decide (8 * s.size < p + 2)) = b5 at *
      have hev : IntKind.i64.wrap (3 + (y : Int)) = 3 + (y : Int) := by rw [IntKind.wrap_i64]; omega
      go_wp2_with fail
      refine HG.out.mono ?_
      rintro e wX ⟨rfl, hrX, KX⟩
      have hNX := hN.kp KX (by simpa using Ne.symm hgr)
      cases b5 with
      | true =>
        have HANS : RowKit.Hid (∀ z, Ans (stepD x all) s p b z q5 true) := Lib.hid (fun z => ⟨fun _ => by
          rcases Bool.eq_false_or_eq_true b with e | e
          · exact .inl e
          · right
            have hx := hx16.out e
            unfold stepD
            rw [if_neg (by omega : ¬ x < 16), if_pos hx]
            rcases A1.out.bad rfl with c | c
            · rw [e] at c; cases c
            · exact next_none c, fun e => (by cases e)⟩)
        have dX : wX.cell? ⟨g, 2, none⟩ = some (.bool true) := (hrX.out.cell 2).trans rfl
        go_wp2_with fail
        go_loopw [1, 9] (fun o kx wr2 => kx = .int .i64 0 ∧ o = .slice (some ⟨r, 0, none⟩) n cap ∧ wr2 = wX) (fun _ _ _ => 0)
        case atStart => exact ⟨rfl, rfl, rfl⟩
        case round =>
          obtain ⟨rfl, rfl, hwX⟩ := hrel
          obtain rfl : wX = wr := hwX.symm
          go_wp2_with fail
          all_goals
            go_ret
            exact ⟨q5, true, r, cap, all, by rw [HN.out]; rfl, hrX, by rw [HN.out]; exact hNX, KX.mono (fun y hy => .inl (by simp at hy ⊢; exact .inl hy)), .inl rfl, HANS.out _, fun e => (by cases e), fun _ => rfl⟩
      | false =>
        have HANS : RowKit.Hid (Ans (stepD x all) s p b (all ++ List.replicate (3 + y) (all.getD (n - 1) 0)) q5 false) := Lib.hid (by
          have h1 := A1.out.good rfl
          have hx := hx16.out h1.1
          refine ⟨fun e => (by cases e), fun _ => ⟨h1.1, ?_⟩⟩
          unfold stepD
          rw [if_neg (by omega : ¬ x < 16), if_pos hx, next_some h1.2]
          rw [if_neg (by rw [HN.out]; exact hn0), HN.out]; rfl)
        have HAG : RowKit.Hid ((all.getD (n - 1) 0) ≤ 15) := Lib.hid (by exact hl15)
        have hM138 : (3 + y) ≤ 138 := by omega
        go_wp2_with fail
        go_loopw [1, 9] (fun o kx wr2 => ∃ (k ra2 ca2 : Nat), kx = .int .i64 (k : Int) ∧ k ≤ (3 + y) ∧ o = .slice (some ⟨ra2, 0, none⟩) (n + k) ca2 ∧ Nums wr2 ra2 (.slice (some ⟨ra2, 0, none⟩) (n + k) ca2) (all ++ List.replicate k (all.getD (n - 1) 0)) ∧ Kp [r] wX wr2 ∧ (ra2 = r ∨ wX.heap.size ≤ ra2)) (fun _ kx _ => (3 + y) - (intOf kx).toNat)
        case atStart => exact ⟨0, r, cap, rfl, by omega, rfl, by simpa using hNX, Kp.refl _ _, .inl rfl⟩
        case round =>
          obtain ⟨k, ra2, ca2, rfl, hk, rfl, hN12, K12, hra2⟩ := hrel
          have hlen : (all ++ List.replicate k (all.getD (n - 1) 0)).length = n + k := by rw [List.length_append, List.length_replicate, HN.out]
          have HLEN := Lib.hid hlen
          have hr12 := hrX.kp K12 (by simpa using hgr)
          have d12 : wr.cell? ⟨g, 2, none⟩ = some (.bool false) := (hr12.out.cell 2).trans rfl
          clear hlen
          by_cases hlt : k < (3 + y)
          · have hlt' : (k : Int) < (((3 + y) : Nat) : Int) := by omega
            have hlt2 : (k : Int) < 3 + (y : Int) := by omega
            go_wp2_with (at_builtin; go_must (refine wpList_nat (x := (all.getD (n - 1) 0)) rfl _ _ rfl rfl hN12 rfl (by rw [HLEN.out]; omega) ?_); intro r6 c6 w6 hN6 hr6 hrl6 K6 hc1 hc2)
            go_roundw
            case rel =>
              refine ⟨k + 1, r6, c6, by go_num, by omega, by first | (rw [HLEN.out]; rfl) | (rw [HN.out]; rfl), ?_, K12.trans K6 (fun y hy => by simp at hy ⊢; omega), by have := K12.size; omega⟩
              rw [HLEN.out] at hN6
              rw [List.replicate_succ', ← List.append_assoc]
              exact hN6
            case measure => simp [intOf]; omega
          · obtain rfl : k = (3 + y) := by omega
            go_wp2_with fail
            go_ret
            have hz := KX.size
            exact ⟨q5, false, ra2, ca2, all ++ List.replicate ((3 + y)) ((all.getD (n - 1) 0)), by rw [HLEN.out]; rfl, hr12, by rw [HLEN.out]; exact hN12, (KX.mono (fun y hy => .inl (by simp at hy ⊢; exact .inl hy))).then (K12.mono (fun y hy => .inl (by simp at hy ⊢; exact .inr hy))), by omega, HANS.out, fun _ => ⟨((3 + y)), ((all.getD (n - 1) 0)), rfl, by omega, by omega, HAG.out⟩, fun e => (by cases e)⟩
  by_cases v17 : v = 17
  · have v16' : (v == 16) = false := by simpa using v16
    have v17' : (v == 17) = true := by simp [v17]
    have hx17 : RowKit.Hid (b = false → x = 17) := Lib.hid (fun e => by have := HVX.out e; omega)
    clear v16 v17
    have HG := Lib.hid (snum_calls g 3 s p b w hw (by omega))
    have A1 := Lib.hid (ans_num (n := 3) (b := b) hw.le)
    have hv := numAt_lt s p 3
    generalize numAt s p 3 = y at *
    generalize min (p + 3) (8 * s.size) = q5 at *
    generalize (b || decide (8 * s.size < p + 3)) = b5 at *
    have hev : IntKind.i64.wrap (3 + (y : Int)) = 3 + (y : Int) := by rw [IntKind.wrap_i64]; omega
    go_wp2_with fail
    refine HG.out.mono ?_
    rintro e wX ⟨rfl, hrX, KX⟩
    have hNX := hN.kp KX (by simpa using Ne.symm hgr)
    cases b5 with
    | true =>
      have HANS : RowKit.Hid (∀ z, Ans (stepD x all) s p b z q5 true) := Lib.hid (fun z => ⟨fun _ => by
        rcases Bool.eq_false_or_eq_true b with e | e
        · exact .inl e
        · right
          have hx := hx17.out e
          unfold stepD
          rw [if_neg (by omega : ¬ x < 16), if_neg (by omega : ¬ x = 16), if_pos hx]
          rcases A1.out.bad rfl with c | c
          · rw [e] at c; cases c
          · exact next_none c, fun e => (by cases e)⟩)
      have dX : wX.cell? ⟨g, 2, none⟩ = some (.bool true) := (hrX.out.cell 2).trans rfl
      go_wp2_with fail
      go_loopw [1, 9] (fun o kx wr2 => kx = .int .i64 0 ∧ o = .slice (some ⟨r, 0, none⟩) n cap ∧ wr2 = wX) (fun _ _ _ => 0)
      case atStart => exact ⟨rfl, rfl, rfl⟩
      case round =>
        obtain ⟨rfl, rfl, hwX⟩ := hrel
        obtain rfl : wX = wr := hwX.symm
        go_wp2_with fail
        all_goals
          go_ret
          exact ⟨q5, true, r, cap, all, by rw [HN.out]; rfl, hrX, by rw [HN.out]; exact hNX, KX.mono (fun y hy => .inl (by simp at hy ⊢; exact .inl hy)), .inl rfl, HANS.out _, fun e => (by cases e), fun _ => rfl⟩
    | false =>
      have HANS : RowKit.Hid (Ans (stepD x all) s p b (all ++ List.replicate (3 + y) 0) q5 false) := Lib.hid (by
        have h1 := A1.out.good rfl
        have hx := hx17.out h1.1
        refine ⟨fun e => (by cases e), fun _ => ⟨h1.1, ?_⟩⟩
        unfold stepD
        rw [if_neg (by omega : ¬ x < 16), if_neg (by omega : ¬ x = 16), if_pos hx, next_some h1.2]
        rfl)
      have HAG : RowKit.Hid (0 ≤ 15) := Lib.hid (by omega)
      have hM138 : (3 + y) ≤ 138 := by omega
      go_wp2_with fail
      go_loopw [1, 9] (fun o kx wr2 => ∃ (k ra2 ca2 : Nat), kx = .int .i64 (k : Int) ∧ k ≤ (3 + y) ∧ o = .slice (some ⟨ra2, 0, none⟩) (n + k) ca2 ∧ Nums wr2 ra2 (.slice (some ⟨ra2, 0, none⟩) (n + k) ca2) (all ++ List.replicate k 0) ∧ Kp [r] wX wr2 ∧ (ra2 = r ∨ wX.heap.size ≤ ra2)) (fun _ kx _ => (3 + y) - (intOf kx).toNat)
      case atStart => exact ⟨0, r, cap, rfl, by omega, rfl, by simpa using hNX, Kp.refl _ _, .inl rfl⟩
      case round =>
        obtain ⟨k, ra2, ca2, rfl, hk, rfl, hN12, K12, hra2⟩ := hrel
        have hlen : (all ++ List.replicate k 0).length = n + k := by rw [List.length_append, List.length_replicate, HN.out]
        have HLEN := Lib.hid hlen
        have hr12 := hrX.kp K12 (by simpa using hgr)
        have d12 : wr.cell? ⟨g, 2, none⟩ = some (.bool false) := (hr12.out.cell 2).trans rfl
        clear hlen
        by_cases hlt : k < (3 + y)
        · have hlt' : (k : Int) < (((3 + y) : Nat) : Int) := by omega
          have hlt2 : (k : Int) < 3 + (y : Int) := by omega
          go_wp2_with (at_builtin; go_must (refine wpList_nat (x := 0) rfl _ _ rfl rfl hN12 rfl (by rw [HLEN.out]; omega) ?_); intro r6 c6 w6 hN6 hr6 hrl6 K6 hc1 hc2)
          go_roundw
          case rel =>
            refine ⟨k + 1, r6, c6, by go_num, by omega, by first | (rw [HLEN.out]; rfl) | (rw [HN.out]; rfl), ?_, K12.trans K6 (fun y hy => by simp at hy ⊢; omega), by have := K12.size; omega⟩
            rw [HLEN.out] at hN6
            rw [List.replicate_succ', ← List.append_assoc]
            exact hN6
          case measure => simp [intOf]; omega
        · obtain rfl : k = (3 + y) := by omega
          go_wp2_with fail
          go_ret
          have hz := KX.size
          exact ⟨q5, false, ra2, ca2, all ++ List.replicate ((3 + y)) (0), by rw [HLEN.out]; rfl, hr12, by rw [HLEN.out]; exact hN12, (KX.mono (fun y hy => .inl (by simp at hy ⊢; exact .inl hy))).then (K12.mono (fun y hy => .inl (by simp at hy ⊢; exact .inr hy))), by omega, HANS.out, fun _ => ⟨((3 + y)), (0), rfl, by omega, by omega, HAG.out⟩, fun e => (by cases e)⟩
  by_cases v18 : v = 18
  · have v16' : (v == 16) = false := by simpa using v16
    have v17' : (v == 17) = false := by simpa using v17
    have v18' : (v == 18) = true := by simp [v18]
    have hx18 : RowKit.Hid (b = false → x = 18) := Lib.hid (fun e => by have := HVX.out e; omega)
    clear v16 v17 v18
    have HG := Lib.hid (snum_calls g 7 s p b w hw (by omega))
    have A1 := Lib.hid (ans_num (n := 7) (b := b) hw.le)
    have hv := numAt_lt s p 7
    generalize numAt s p 7 = y at *
    generalize min (p + 7) (8 * s.size) = q5 at *
    generalize (b || decide (8 * s.size < p + 7)) = b5 at *
    have hev : IntKind.i64.wrap (11 + (y : Int)) = 11 + (y : Int) := by rw [IntKind.wrap_i64]; omega
    go_wp2_with fail
    refine HG.out.mono ?_
    rintro e wX ⟨rfl, hrX, KX⟩
    have hNX := hN.kp KX (by simpa using Ne.symm hgr)
    cases b5 with
    | true =>
      have HANS : RowKit.Hid (∀ z, Ans (stepD x all) s p b z q5 true) := Lib.hid (fun z => ⟨fun _ => by
        rcases Bool.eq_false_or_eq_true b with e | e
        · exact .inl e
        · right
          have hx := hx18.out e
          unfold stepD
          rw [if_neg (by omega : ¬ x < 16), if_neg (by omega : ¬ x = 16), if_neg (by omega : ¬ x = 17)]
          rcases A1.out.bad rfl with c | c
          · rw [e] at c; cases c
          · exact next_none c, fun e => (by cases e)⟩)
      have dX : wX.cell? ⟨g, 2, none⟩ = some (.bool true) := (hrX.out.cell 2).trans rfl
      go_wp2_with fail
      go_loopw [1, 9] (fun o kx wr2 => kx = .int .i64 0 ∧ o = .slice (some ⟨r, 0, none⟩) n cap ∧ wr2 = wX) (fun _ _ _ => 0)
      case atStart => exact ⟨rfl, rfl, rfl⟩
      case round =>
        obtain ⟨rfl, rfl, hwX⟩ := hrel
        obtain rfl : wX = wr := hwX.symm
        go_wp2_with fail
        all_goals
          go_ret
          exact ⟨q5, true, r, cap, all, by rw [HN.out]; rfl, hrX, by rw [HN.out]; exact hNX, KX.mono (fun y hy => .inl (by simp at hy ⊢; exact .inl hy)), .inl rfl, HANS.out _, fun e => (by cases e), fun _ => rfl⟩
    | false =>
      have HANS : RowKit.Hid (Ans (stepD x all) s p b (all ++ List.replicate (11 + y) 0) q5 false) := Lib.hid (by
        have h1 := A1.out.good rfl
        have hx := hx18.out h1.1
        refine ⟨fun e => (by cases e), fun _ => ⟨h1.1, ?_⟩⟩
        unfold stepD
        rw [if_neg (by omega : ¬ x < 16), if_neg (by omega : ¬ x = 16), if_neg (by omega : ¬ x = 17), next_some h1.2]
        rfl)
      have HAG : RowKit.Hid (0 ≤ 15) := Lib.hid (by omega)
      have hM138 : (11 + y) ≤ 138 := by omega
      go_wp2_with fail
      go_loopw [1, 9] (fun o kx wr2 => ∃ (k ra2 ca2 : Nat), kx = .int .i64 (k : Int) ∧ k ≤ (11 + y) ∧ o = .slice (some ⟨ra2, 0, none⟩) (n + k) ca2 ∧ Nums wr2 ra2 (.slice (some ⟨ra2, 0, none⟩) (n + k) ca2) (all ++ List.replicate k 0) ∧ Kp [r] wX wr2 ∧ (ra2 = r ∨ wX.heap.size ≤ ra2)) (fun _ kx _ => (11 + y) - (intOf kx).toNat)
      case atStart => exact ⟨0, r, cap, rfl, by omega, rfl, by simpa using hNX, Kp.refl _ _, .inl rfl⟩
      case round =>
        obtain ⟨k, ra2, ca2, rfl, hk, rfl, hN12, K12, hra2⟩ := hrel
        have hlen : (all ++ List.replicate k 0).length = n + k := by rw [List.length_append, List.length_replicate, HN.out]
        have HLEN := Lib.hid hlen
        have hr12 := hrX.kp K12 (by simpa using hgr)
        have d12 : wr.cell? ⟨g, 2, none⟩ = some (.bool false) := (hr12.out.cell 2).trans rfl
        clear hlen
        by_cases hlt : k < (11 + y)
        · have hlt' : (k : Int) < (((11 + y) : Nat) : Int) := by omega
          have hlt2 : (k : Int) < 11 + (y : Int) := by omega
          go_wp2_with (at_builtin; go_must (refine wpList_nat (x := 0) rfl _ _ rfl rfl hN12 rfl (by rw [HLEN.out]; omega) ?_); intro r6 c6 w6 hN6 hr6 hrl6 K6 hc1 hc2)
          go_roundw
          case rel =>
            refine ⟨k + 1, r6, c6, by go_num, by omega, by first | (rw [HLEN.out]; rfl) | (rw [HN.out]; rfl), ?_, K12.trans K6 (fun y hy => by simp at hy ⊢; omega), by have := K12.size; omega⟩
            rw [HLEN.out] at hN6
            rw [List.replicate_succ', ← List.append_assoc]
            exact hN6
          case measure => simp [intOf]; omega
        · obtain rfl : k = (11 + y) := by omega
          go_wp2_with fail
          go_ret
          have hz := KX.size
          exact ⟨q5, false, ra2, ca2, all ++ List.replicate ((11 + y)) (0), by rw [HLEN.out]; rfl, hr12, by rw [HLEN.out]; exact hN12, (KX.mono (fun y hy => .inl (by simp at hy ⊢; exact .inl hy))).then (K12.mono (fun y hy => .inl (by simp at hy ⊢; exact .inr hy))), by omega, HANS.out, fun _ => ⟨((11 + y)), (0), rfl, by omega, by omega, HAG.out⟩, fun e => (by cases e)⟩
  · have v16' : (v == 16) = false := by simpa using v16
    have v17' : (v == 17) = false := by simpa using v17
    have v18' : (v == 18) = false := by simpa using v18
    have hrX := hw
    have hNX := hN
    have KX := Kp.refl [g] w
    obtain ⟨q5, hq5⟩ : ∃ q5, q5 = p := ⟨_, rfl⟩
    obtain ⟨wX, hwX⟩ : ∃ wX, wX = w := ⟨_, rfl⟩
    cases b with
    | true =>
      have HANS : RowKit.Hid (∀ z, Ans (stepD x all) s p true z q5 true) := Lib.hid (fun z => ⟨fun _ => .inl rfl, fun e => (by cases e)⟩)
      rw [← hq5] at hrX
      clear v16 v17 v18
      go_wp2_with fail
      rw [← hwX]
      rw [← hwX] at hrX hNX
      have KX : Kp [g] w wX := by rw [hwX]; exact KX
      clear hwX
      have dX : wX.cell? ⟨g, 2, none⟩ = some (.bool true) := (hrX.out.cell 2).trans rfl
      go_loopw [1, 9] (fun o kx wr2 => kx = .int .i64 0 ∧ o = .slice (some ⟨r, 0, none⟩) n cap ∧ wr2 = wX) (fun _ _ _ => 0)
      case atStart => exact ⟨rfl, rfl, rfl⟩
      case round =>
        obtain ⟨rfl, rfl, hwX⟩ := hrel
        obtain rfl : wX = wr := hwX.symm
        go_wp2_with fail
        all_goals
          go_ret
          exact ⟨q5, true, r, cap, all, by rw [HN.out]; rfl, hrX, by rw [HN.out]; exact hNX, KX.mono (fun y hy => .inl (by simp at hy ⊢; exact .inl hy)), .inl rfl, HANS.out _, fun e => (by cases e), fun _ => rfl⟩
    | false =>
      obtain ⟨rfl, hx19⟩ := HVX.out rfl
      have hx16 : x < 16 := by omega
      have HANS : RowKit.Hid (Ans (stepD x all) s p false (all ++ List.replicate 1 x) q5 false) := Lib.hid (by
        unfold stepD
        rw [if_pos hx16, hq5]
        exact Ans.ret _ _ _ _)
      have HAG : RowKit.Hid (x ≤ 15) := Lib.hid (by omega)
      rw [← hq5] at hrX
      clear v16 v17 v18
      go_wp2_with fail
      rw [← hwX]
      rw [← hwX] at hrX hNX
      have KX : Kp [g] w wX := by rw [hwX]; exact KX
      clear hwX
      have hM138 : 1 ≤ 138 := by omega
      go_loopw [1, 9] (fun o kx wr2 => ∃ (k ra2 ca2 : Nat), kx = .int .i64 (k : Int) ∧ k ≤ 1 ∧ o = .slice (some ⟨ra2, 0, none⟩) (n + k) ca2 ∧ Nums wr2 ra2 (.slice (some ⟨ra2, 0, none⟩) (n + k) ca2) (all ++ List.replicate k x) ∧ Kp [r] wX wr2 ∧ (ra2 = r ∨ wX.heap.size ≤ ra2)) (fun _ kx _ => 1 - (intOf kx).toNat)
      case atStart => exact ⟨0, r, cap, rfl, by omega, rfl, by simpa using hNX, Kp.refl _ _, .inl rfl⟩
      case round =>
        obtain ⟨k, ra2, ca2, rfl, hk, rfl, hN12, K12, hra2⟩ := hrel
        have hlen : (all ++ List.replicate k x).length = n + k := by rw [List.length_append, List.length_replicate, HN.out]
        have HLEN := Lib.hid hlen
        have hr12 := hrX.kp K12 (by simpa using hgr)
        have d12 : wr.cell? ⟨g, 2, none⟩ = some (.bool false) := (hr12.out.cell 2).trans rfl
        clear hlen
        by_cases hlt : k < 1
        · have hlt' : (k : Int) < ((1 : Nat) : Int) := by omega
          have hlt2 : (k : Int) < 1 := by omega
          go_wp2_with (at_builtin; go_must (refine wpList_nat (x := x) rfl _ _ rfl rfl hN12 rfl (by rw [HLEN.out]; omega) ?_); intro r6 c6 w6 hN6 hr6 hrl6 K6 hc1 hc2)
          go_roundw
          case rel =>
            refine ⟨k + 1, r6, c6, by go_num, by omega, by first | (rw [HLEN.out]; rfl) | (rw [HN.out]; rfl), ?_, K12.trans K6 (fun y hy => by simp at hy ⊢; omega), by have := K12.size; omega⟩
            rw [HLEN.out] at hN6
            rw [List.replicate_succ', ← List.append_assoc]
            exact hN6
          case measure => simp [intOf]; omega
        · obtain rfl : k = 1 := by omega
          go_wp2_with fail
          go_ret
          have hz := KX.size
          exact ⟨q5, false, ra2, ca2, all ++ List.replicate (1) (x), by rw [HLEN.out]; rfl, hr12, by rw [HLEN.out]; exact hN12, (KX.mono (fun y hy => .inl (by simp at hy ⊢; exact .inl hy))).then (K12.mono (fun y hy => .inl (by simp at hy ⊢; exact .inr hy))), by omega, HANS.out, fun _ => ⟨(1), (x), rfl, by omega, by omega, HAG.out⟩, fun e => (by cases e)⟩
end Go.Proofs.YtnadjlejlohgiaaGreatDoor.Wi

