/- Own texts joined: Zg2, Ly. -/
import Derived.Test.YtnadjlejlohgiaaGreatDoorZ35
import Derived.Test.YtnadjlejlohgiaaGreatDoorZ36
import Derived.Test.YtnadjlejlohgiaaGreatDoorZ39
/- The reference's reading of an archive, over whatever is read at each place: ZipGet of the specification. -/
namespace Go.Proofs.YtnadjlejlohgiaaGreatDoor.Lc
open Go.RowKit Go.Proofs.YtnadjlejlohgiaaGreatDoor.Mem Go.Proofs.YtnadjlejlohgiaaGreatDoor.Nm Go.Proofs.YtnadjlejlohgiaaGreatDoor.Nb Go.Proofs.YtnadjlejlohgiaaGreatDoor.Cr
set_option linter.unusedVariables false
set_option linter.unusedSimpArgs false
theorem shead_calls (s : ByteArray) (H p : Nat) (hs : s.size ≤ 1048576) (hH : H ≤ 10000000) (hp : p ≤ 10000000) (w : World) :
    Calls Tryz.prog 33 #[.string s, .int .i64 H, .int .i64 p] w (fun e w' => ∃ (n : Nat) (b : Bool), e = .returned (.tuple #[.int .i64 n, .bool b]) ∧ On w w' ∧ (b = true → fineB s H p ∧ n = 46 + numAtB s (H + 28) 2) ∧ (b = false → ¬ fineB s H p)) := by
  by_cases h : H + 30 ≤ s.size
  · by_cases hf : H + (46 + numAtB s (H + 28) 2) ≤ s.size ∧ p + 30 + numAtB s (H + 28) 2 ≤ s.size
    · refine (shead_fit s H p hs hH hp h hf.1 hf.2 w).mono ?_
      rintro e w' ⟨rfl, O⟩
      exact ⟨_, _, rfl, O, fun hb => ⟨of_decide_eq_true hb, rfl⟩, fun hb => of_decide_eq_false hb⟩
    · refine (shead_unfit s H p hs hH hp h hf w).mono ?_
      rintro e w' ⟨rfl, O⟩
      exact ⟨0, false, rfl, O, fun hb => (by cases hb), fun _ q => hf ⟨q.2.1, q.2.2.1⟩⟩
  · refine (shead_none s H p hs hH hp h w).mono ?_
    rintro e w' ⟨rfl, O⟩
    exact ⟨0, false, rfl, O, fun hb => (by cases hb), fun _ q => h q.1⟩
/-- What ZipGet answers. -/
def ZOut (w : World) (s : ByteArray) (mz : Int) (pos : Nat → Nat) (hp : Nat → Nat → Nat) (get : Nat → Option (Fi × Nat)) (fs : Nat → List Fi) (Z : Nat → Prop) (e : Ending) (w' : World) : Prop := ∃ (v : Value) (b : Bool), e = .returned (.tuple #[v, .bool b]) ∧ On w w' ∧
    ((b = true ∧ ∃ k : Nat, mz = k ∧ k ≤ 6 ∧ (∀ i, i < k → (get i).isSome = true) ∧ Z k ∧ (∀ i, i < k → fineB s (hp k i) (pos i)) ∧ s.extract (hp k k) s.size = endB k (hp k k - pos k) (pos k) ∧ Own w.heap.size w' 42 8 v k (fcells (fs k))) ∨
     (b = false ∧ Own w.heap.size w' 42 8 v 0 [] ∧ ∀ k : Nat, mz = k → k ≤ 6 → (∀ i, i < k → (get i).isSome = true) → Z k → (∀ i, i < k → fineB s (hp k i) (pos i)) → s.extract (hp k k) s.size = endB k (hp k k - pos k) (pos k) → False))
theorem ZOut.of {w : World} {s : ByteArray} {mz : Int} {pos : Nat → Nat} {hp : Nat → Nat → Nat} {get : Nat → Option (Fi × Nat)} {fs : Nat → List Fi} {Z : Nat → Prop} {e : Ending} {w' : World} (h : ∃ (v : Value) (b : Bool), e = .returned (.tuple #[v, .bool b]) ∧ On w w' ∧
    ((b = true ∧ ∃ k : Nat, mz = k ∧ k ≤ 6 ∧ (∀ i, i < k → (get i).isSome = true) ∧ Z k ∧ (∀ i, i < k → fineB s (hp k i) (pos i)) ∧ s.extract (hp k k) s.size = endB k (hp k k - pos k) (pos k) ∧ Own w.heap.size w' 42 8 v k (fcells (fs k))) ∨
     (b = false ∧ Own w.heap.size w' 42 8 v 0 [] ∧ ∀ k : Nat, mz = k → k ≤ 6 → (∀ i, i < k → (get i).isSome = true) → Z k → (∀ i, i < k → fineB s (hp k i) (pos i)) → s.extract (hp k k) s.size = endB k (hp k k - pos k) (pos k) → False))) : ZOut w s mz pos hp get fs Z e w' := h
set_option maxRecDepth 100000 in
set_option maxHeartbeats 8000000 in
theorem szipget_gen (s : ByteArray) (hs : s.size ≤ 1048576) (mz : Int) (hmz : -1 ≤ mz ∧ mz ≤ 65535) (pos : Nat → Nat) (hp : Nat → Nat → Nat) (get : Nat → Option (Fi × Nat)) (fs : Nat → List Fi) (Z : Nat → Prop) (R : SRead s pos get fs) (w : World)
    (hp0 : ∀ k, hp k 0 = pos k) (hps : ∀ k i, hp k (i + 1) = hp k i + (46 + numAtB s (hp k i + 28) 2))
    (HM : ∀ w', Calls Tryz.prog 29 #[.string s, .int .i64 ((s.size : Int) - 12), .int .i64 2] w' (fun e w'' => e = .returned (.int .i64 mz) ∧ w'' = w'))
    (HI : ∀ w', Calls Tryz.prog 30 #[.int .i64 mz, .int .i64 0, .int .i64 6] w' (fun e w'' => e = .returned (.bool (decide (0 ≤ mz ∧ mz ≤ 6))) ∧ w'' = w'))
    (HRs : ∀ k f n w', get k = some (f, n) → On w w' → Calls Tryz.prog 34 #[.string (s.extract (pos k) s.size)] w' (Tells w' (.tuple #[.agg #[.string f.nm, .int .i64 f.y, .int .i64 f.m, .int .i64 f.d, .int .i64 f.h, .int .i64 f.mi, .int .i64 f.s, .string f.tx], .int .i64 (n : Nat), .bool true])))
    (HG : ∀ (many : Nat) w', many ≤ 6 → On w w' → Calls Tryz.prog 31 #[.string s, .int .i64 many] w' (L7Out w' many pos get fs))
    (HZ : ∀ k g cap w', On w w' → (∀ i, i < k → (get i).isSome = true) → FiAt w' g 0 (fs k) → Calls Tryz.prog 32 #[.slice (some ⟨g, 0, none⟩) k cap] w' (fun e w'' => ∃ b : Bool, e = .returned (.bool b) ∧ On w' w'' ∧ (b = true ↔ Z k))) :
    Calls Tryz.prog 9 #[.string s] w (ZOut w s mz pos hp get fs Z) := by
  have HMh := Lib.hid HM
  have HIh := Lib.hid HI
  have HRh := Lib.hid HRs
  have HGh := Lib.hid HG
  have HZh := Lib.hid HZ
  clear HM HI HRs HG HZ
  have e0 : IntKind.i64.wrap ((s.size : Int) - 12) = (s.size : Int) - 12 := by rw [IntKind.wrap_i64]; omega
  by_cases hin : 0 ≤ mz ∧ mz ≤ 6
  rotate_left
  · have hd : decide (0 ≤ mz ∧ mz ≤ 6) = false := decide_eq_false hin
    rw [hd] at HIh
    go_enter Tryz.func9, Tryz.ntmps9
    go_wp2_with fail
    refine (HMh.out w).mono ?_
    rintro e w' ⟨rfl, hw⟩
    rw [hw]
    clear hw
    go_wp2_with fail
    refine (HIh.out w).mono ?_
    rintro e w' ⟨rfl, hw⟩
    rw [hw]
    clear hw
    go_wp2_with fail
    go_ret2
    exact ZOut.of ⟨_, false, rfl, (On.refl w).alloc _, .inr ⟨rfl, Own.new w 42 8 #[] 0 (Nat.zero_le _) rfl (by have := (On.refl w).size; omega), fun k hk h6 _ _ _ _ => by omega⟩⟩
  · have hd : decide (0 ≤ mz ∧ mz ≤ 6) = true := decide_eq_true hin
    rw [hd] at HIh
    obtain ⟨many, rfl⟩ : ∃ many : Nat, mz = many := ⟨mz.toNat, by omega⟩
    have hm6 : many ≤ 6 := by omega
    clear hin hd hmz
    go_enter Tryz.func9, Tryz.ntmps9
    go_wp2_with fail
    refine (HMh.out w).mono ?_
    rintro e w' ⟨rfl, hw⟩
    rw [hw]
    clear hw
    go_wp2_with fail
    refine (HIh.out w).mono ?_
    rintro e w' ⟨rfl, hw⟩
    rw [hw]
    clear hw
    go_wp2_with fail
    refine (HGh.out many w hm6 (On.refl w)).mono ?_
    intro e w1 hout
    obtain ⟨k, v, b, hk, hg, hb, rfl, O1, hown⟩ := (show ∃ (k : Nat) (v : Value) (b : Bool), k ≤ many ∧ (∀ i, i < k → (get i).isSome = true) ∧ ((b = true ∧ k = many) ∨ (b = false ∧ get k = none ∧ k < many)) ∧ e = .returned (.tuple #[v, .int .i64 (pos k : Nat), .bool b]) ∧ On w w1 ∧ Own w.heap.size w1 42 8 v k (fcells (fs k)) from hout)
    rcases hb with ⟨rfl, rfl⟩ | ⟨rfl, hgk, hlt⟩
    rotate_left
    · go_wp2_with fail
      go_ret2
      exact ZOut.of ⟨_, false, rfl, O1.alloc _, .inr ⟨rfl, Own.new w1 42 8 #[] 0 (Nat.zero_le _) rfl (by have := O1.size; omega), fun k' hk' h6 hall _ _ _ => (by
        have hkk : k' = many := by omega
        have h9 := hall k (by omega)
        rw [hgk] at h9
        cases h9)⟩⟩
    · obtain ⟨g1, c1, rfl, hb1, hrow1, hn1, hm1, hl1⟩ := hown.parts
      have HZk := Lib.hid (HZh.out k g1 c1 w1 O1 hg (FiAt.row hrow1))
      go_wp2_with fail
      refine HZk.out.mono ?_
      rintro e w2 ⟨bz, rfl, O2, hbz⟩
      cases bz with
      | false =>
        have hnz : ¬ Z k := fun q => by have := hbz.2 q; cases this
        have Oc := O1.call O2
        go_wp2_with fail
        go_ret2
        exact ZOut.of ⟨_, false, rfl, Oc.alloc _, .inr ⟨rfl, Own.new w2 42 8 #[] 0 (Nat.zero_le _) rfl (by have := Oc.size; omega), fun k' hk' h6 hall hz _ _ => (by
          have hkk : k' = k := by omega
          rw [hkk] at hz
          exact hnz hz)⟩⟩
      | true =>
        have hzk : Z k := hbz.1 rfl
        have Oc := O1.call O2
        have hown2 := hown.on O2
        clear HZk hbz O1 O2 hown hrow1
        have H0 := Lib.hid (hp0 k)
        have P0 := Lib.hid R.p0
        have hpk := R.le k hg
        have HPS := Lib.hid (hps k)
        have hmono : ∀ i, pos k ≤ hp k i := by
          intro i
          induction i with
          | zero => rw [hp0]; exact Nat.le_refl _
          | succ i ih => rw [hps]; omega
        clear hp0 hps
        go_wp2_with fail
        go_loopw [8, 9, 10, 11, 12, 13, 14, 15] (fun hv ov iv _ _ _ _ _ wr => ∃ i : Nat, i ≤ k ∧ iv = .int .i64 i ∧ hv = .int .i64 (hp k i : Nat) ∧ ov = .int .i64 (pos i : Nat) ∧ (∀ j, j < i → fineB s (hp k j) (pos j)) ∧ hp k i ≤ s.size ∧ On w2 wr) (fun _ _ iv _ _ _ _ _ _ => k - (intOf iv).toNat)
        case atStart => exact ⟨0, by omega, rfl, by rw [H0.out], by rw [P0.out]; rfl, fun j hj => by omega, by rw [H0.out]; exact hpk, On.refl w2⟩
        case round =>
          obtain ⟨i, hik, rfl, rfl, rfl, hfi, hhz, O⟩ := hrel
          have hpi := R.le i (fun j hj => hg j (by omega))
          by_cases hlt : i < k
          · have hlt' : (i : Int) < k := by omega
            have HH := Lib.hid (shead_calls s (hp k i) (pos i) hs (by omega) (by omega) wr)
            go_wp2_with fail
            refine HH.out.mono ?_
            rintro e w3 ⟨n, b, rfl, O3, hb1, hb2⟩
            cases b with
            | false =>
              have hnf := hb2 rfl
              have Od := (Oc.call O).call O3
              go_wp2_with fail
              go_ret2
              exact ZOut.of ⟨_, false, rfl, Od.alloc _, .inr ⟨rfl, Own.new w3 42 8 #[] 0 (Nat.zero_le _) rfl (by have := Od.size; omega), fun k' hk' h6 hall hz hfine _ => (by
                have hkk : k' = k := by omega
                subst hkk
                exact hnf (hfine i hlt))⟩⟩
            | true =>
              obtain ⟨hfn, hnn⟩ := hb1 rfl
              subst hnn
              obtain ⟨⟨⟨nm, y, m, d, h, mi, se, tx⟩, n⟩, hr⟩ := Option.isSome_iff_exists.1 (hg i hlt)
              have Od := (Oc.call O).call O3
              have HL := Lib.hid (HRh.out i _ n w3 hr Od)
              have st := (R.step i _ n hr).2
              have hle2 := R.le (i + 1) (fun j hj => hg j (by omega))
              rw [st] at hle2
              obtain ⟨_, hsz, _⟩ := id hfn
              have HF := Lib.hid hfn
              have S2 := Lib.hid st
              have hH := Lib.hid (HPS.out i)
              clear hb1 hb2 hr st hfn
              generalize numAtB s (hp k i + 28) 2 = nz at *
              have e1 : IntKind.i64.wrap ((hp k i : Int) + ((46 + nz : Nat) : Int)) = (hp k i : Int) + ((46 + nz : Nat) : Int) := by rw [IntKind.wrap_i64]; omega
              have e2 : IntKind.i64.wrap ((pos i : Int) + (n : Int)) = (pos i : Int) + (n : Int) := by rw [IntKind.wrap_i64]; omega
              have e3 : IntKind.i64.wrap ((hp k i : Int) + (46 + (nz : Int))) = (hp k i : Int) + (46 + (nz : Int)) := by rw [IntKind.wrap_i64]; omega
              have v1 : (0 : Int) ≤ (pos i : Int) := by omega
              have v2 : (pos i : Int) ≤ (s.size : Int) := by omega
              go_wp2_with fail
              refine HL.out.mono ?_
              rintro e w4 ⟨rfl, O4⟩
              go_wp2_with fail
              exact ⟨⟨i + 1, by omega, by go_num, by rw [hH.out]; simp, by rw [S2.out]; simp, fun j hj => (by
                by_cases e : j < i
                · exact hfi j e
                · have hji : j = i := by omega
                  rw [hji]; exact HF.out), by rw [hH.out]; exact hsz, ((O.call O3).call O4).alloc _⟩, by simp [intOf]; omega⟩
          · skip
            obtain rfl : k = i := by omega
            have hlt' : ¬ (k : Int) < k := by omega
            have hmn := hmono k
            have v2 : (hp k k : Int) ≤ (s.size : Int) := by omega
            have Od := Oc.call O
            have hwz := Od.size
            have FY := Lib.hid (show s.extract (hp k k) s.size = endB k (hp k k - pos k) (pos k) → ∀ we, On wr we → ZOut w s (k : Int) pos hp get fs Z (.returned (.tuple #[.slice (some ⟨g1, 0, none⟩) k c1, .bool true])) we from fun hq we Oe => ZOut.of ⟨_, true, rfl, Od.call Oe, .inl ⟨rfl, k, rfl, hm6, hg, hzk, fun j hj => hfi j (by omega), hq, (hown2.on O).on Oe⟩⟩)
            have FN := Lib.hid (show ¬ s.extract (hp k k) s.size = endB k (hp k k - pos k) (pos k) → ∀ we, On wr we → ZOut w s (k : Int) pos hp get fs Z (.returned (.tuple #[.slice (some ⟨we.heap.size, 0, none⟩) 0 0, .bool false])) (we.alloc (.cells #[] 42)) from fun hq we Oe => ZOut.of ⟨_, false, rfl, (Od.call Oe).alloc _, .inr ⟨rfl, Own.new we 42 8 #[] 0 (Nat.zero_le _) rfl (by have := (Od.call Oe).size; omega), fun k' hk' h6 hall hz hfine hend => (by
              have hkk : k' = k := by omega
              rw [hkk] at hend
              exact hq hend)⟩⟩)
            have HE := Lib.hid (fun w => send_calls k (hp k k - pos k) (pos k) (by omega) (by omega) (by omega) w)
            have v3 : IntKind.i64.wrap ((hp k k - pos k : Nat) : Int) = ((hp k k - pos k : Nat) : Int) := by rw [IntKind.wrap_i64]; omega
            have v4 : (hp k k : Int) - (pos k : Int) = ((hp k k - pos k : Nat) : Int) := by omega
            have v1 : (0 : Int) ≤ (hp k k : Int) := by omega
            clear hmono HPS H0 P0 hfi hown2 hb1 hn1 hm1 hl1 hg hzk R HRh HGh HZh HMh HIh hpi hhz Oc Od O
            generalize endB k (hp k k - pos k) (pos k) = eb at *
            generalize hp k k - pos k = hl at *
            generalize hp k k = H at *
            generalize pos k = p at *
            by_cases hq : s.extract H s.size = eb
            · have hq2 := str_eq hq
              have FZ := Lib.hid (FY.out hq)
              clear hq FY FN
              go_upto_region 18 with fail
              refine wp_region_held_drew (S := fun W => On wr W) (by kernel_rfl) (On.refl _).drew (fun hHeld => ?_)
              refine wpAnyH_take (i := 0) (oi := _) (v := ?_) rfl (by kernel_rfl) (by kernel_rfl) (by kernel_rfl) (fun _ _ _ h => h) (Or.inl ⟨by rfl, ?_⟩) (by assumption) ?_
              rotate_left
              · intro w hSw
                go_simp
                first | done | with_reducible rfl
              try simp (maxSteps := 2000000) only [Act.put, List.setIfInBounds_toArray, List.set_cons_zero, List.set_cons_succ, List.getElem_toArray, List.getElem_cons_zero, List.getElem_cons_succ]
              refine wpAnyH_take (i := 1) (oi := _) (v := ?_) rfl (by kernel_rfl) (by kernel_rfl) (by kernel_rfl) (fun _ _ _ h => h) (Or.inl ⟨by rfl, ?_⟩) (by assumption) ?_
              rotate_left
              · intro w hSw
                go_simp
                first | done | with_reducible rfl
              try simp (maxSteps := 2000000) only [Act.put, List.setIfInBounds_toArray, List.set_cons_zero, List.set_cons_succ, List.getElem_toArray, List.getElem_cons_zero, List.getElem_cons_succ]
              refine wpAnyH_take (i := 2) (oi := _) (v := ?_) rfl (by kernel_rfl) (by kernel_rfl) (by kernel_rfl) (fun _ _ _ h => h) (Or.inl ⟨by rfl, ?_⟩) (by assumption) ?_
              rotate_left
              · intro w hSw
                go_simp
                first | done | with_reducible rfl
              try simp (maxSteps := 2000000) only [Act.put, List.setIfInBounds_toArray, List.set_cons_zero, List.set_cons_succ, List.getElem_toArray, List.getElem_cons_zero, List.getElem_cons_succ]
              refine wpAnyH_take (i := 3) (oi := _) (v := ?_) rfl (by kernel_rfl) (by kernel_rfl) (by kernel_rfl) (fun _ _ _ h => h) (Or.inl ⟨by rfl, ?_⟩) (by assumption) ?_
              rotate_left
              · intro w hSw
                go_simp
                first | done | with_reducible rfl
              try simp (maxSteps := 2000000) only [Act.put, List.setIfInBounds_toArray, List.set_cons_zero, List.set_cons_succ, List.getElem_toArray, List.getElem_cons_zero, List.getElem_cons_succ]
              refine wpAnyH_take (i := 4) (oi := _) (v := ?_) rfl (by kernel_rfl) (by kernel_rfl) (by kernel_rfl) (fun _ _ _ h => h) (Or.inl ⟨by rfl, ?_⟩) (by assumption) ?_
              rotate_left
              · intro w hSw
                go_simp
                first | done | with_reducible rfl
              try simp (maxSteps := 2000000) only [Act.put, List.setIfInBounds_toArray, List.set_cons_zero, List.set_cons_succ, List.getElem_toArray, List.getElem_cons_zero, List.getElem_cons_succ]
              refine wpAnyH_take (i := 5) (oi := _) (v := ?_) rfl (by kernel_rfl) (by kernel_rfl) (by kernel_rfl) (fun _ _ _ h => h) (Or.inl ⟨by rfl, ?_⟩) (by assumption) ?_
              rotate_left
              · intro w hSw
                go_simp
                first | done | with_reducible rfl
              try simp (maxSteps := 2000000) only [Act.put, List.setIfInBounds_toArray, List.set_cons_zero, List.set_cons_succ, List.getElem_toArray, List.getElem_cons_zero, List.getElem_cons_succ]
              refine wpAnyH_take (i := 6) (oi := _) (v := ?_) rfl (by kernel_rfl) (by kernel_rfl) (by kernel_rfl) (fun _ _ _ h => h) (Or.inl ⟨by rfl, ?_⟩) (by assumption) ?_
              rotate_left
              · intro w hSw
                go_simp
                first | done | with_reducible rfl
              try simp (maxSteps := 2000000) only [Act.put, List.setIfInBounds_toArray, List.set_cons_zero, List.set_cons_succ, List.getElem_toArray, List.getElem_cons_zero, List.getElem_cons_succ]
              refine wpAnyH_take (i := 7) (oi := _) (v := ?_) rfl (by kernel_rfl) (by kernel_rfl) (by kernel_rfl) (fun _ _ _ h => h) (Or.inl ⟨by rfl, ?_⟩) (by assumption) ?_
              rotate_left
              · intro w hSw
                go_simp
                first | done | with_reducible rfl
              try simp (maxSteps := 2000000) only [Act.put, List.setIfInBounds_toArray, List.set_cons_zero, List.set_cons_succ, List.getElem_toArray, List.getElem_cons_zero, List.getElem_cons_succ]
              have O0 := (On.refl wr).drew
              generalize wr.drew = wd at *
              refine wpAnyH_ready (rs := [8]) (by kernel_rfl) (by simp) ?_
              refine AllReadyH.cons (o := _) rfl (fun K hK => ?_) AllReadyH.nil
              go_simp
              refine (HE.out _).mono ?_
              rintro e we ⟨rfl, Oe⟩
              have O1 := O0.call Oe
              refine hK.out _ _ O1 (fun hHeld => ?_)
              clear hK K
              try simp (maxSteps := 2000000) only [Act.put, List.setIfInBounds_toArray, List.set_cons_zero, List.set_cons_succ, List.getElem_toArray, List.getElem_cons_zero, List.getElem_cons_succ]
              refine wpAnyH_take (i := 9) (oi := _) (v := ?_) rfl (by kernel_rfl) (by kernel_rfl) (by kernel_rfl) (fun _ _ _ h => h) (Or.inl ⟨by rfl, ?_⟩) (by assumption) ?_
              rotate_left
              · intro w hSw
                go_simp
                first | done | with_reducible rfl
              try simp (maxSteps := 2000000) only [Act.put, List.setIfInBounds_toArray, List.set_cons_zero, List.set_cons_succ, List.getElem_toArray, List.getElem_cons_zero, List.getElem_cons_succ]
              refine wpAnyH_done (by kernel_rfl) ?_ _
              go_wp2_with fail
              go_ret2
              exact FZ.out _ O1
            · have hq2 := str_ne hq
              have FZ := Lib.hid (FN.out hq)
              clear hq FY FN
              go_upto_region 18 with fail
              refine wp_region_held_drew (S := fun W => On wr W) (by kernel_rfl) (On.refl _).drew (fun hHeld => ?_)
              refine wpAnyH_take (i := 0) (oi := _) (v := ?_) rfl (by kernel_rfl) (by kernel_rfl) (by kernel_rfl) (fun _ _ _ h => h) (Or.inl ⟨by rfl, ?_⟩) (by assumption) ?_
              rotate_left
              · intro w hSw
                go_simp
                first | done | with_reducible rfl
              try simp (maxSteps := 2000000) only [Act.put, List.setIfInBounds_toArray, List.set_cons_zero, List.set_cons_succ, List.getElem_toArray, List.getElem_cons_zero, List.getElem_cons_succ]
              refine wpAnyH_take (i := 1) (oi := _) (v := ?_) rfl (by kernel_rfl) (by kernel_rfl) (by kernel_rfl) (fun _ _ _ h => h) (Or.inl ⟨by rfl, ?_⟩) (by assumption) ?_
              rotate_left
              · intro w hSw
                go_simp
                first | done | with_reducible rfl
              try simp (maxSteps := 2000000) only [Act.put, List.setIfInBounds_toArray, List.set_cons_zero, List.set_cons_succ, List.getElem_toArray, List.getElem_cons_zero, List.getElem_cons_succ]
              refine wpAnyH_take (i := 2) (oi := _) (v := ?_) rfl (by kernel_rfl) (by kernel_rfl) (by kernel_rfl) (fun _ _ _ h => h) (Or.inl ⟨by rfl, ?_⟩) (by assumption) ?_
              rotate_left
              · intro w hSw
                go_simp
                first | done | with_reducible rfl
              try simp (maxSteps := 2000000) only [Act.put, List.setIfInBounds_toArray, List.set_cons_zero, List.set_cons_succ, List.getElem_toArray, List.getElem_cons_zero, List.getElem_cons_succ]
              refine wpAnyH_take (i := 3) (oi := _) (v := ?_) rfl (by kernel_rfl) (by kernel_rfl) (by kernel_rfl) (fun _ _ _ h => h) (Or.inl ⟨by rfl, ?_⟩) (by assumption) ?_
              rotate_left
              · intro w hSw
                go_simp
                first | done | with_reducible rfl
              try simp (maxSteps := 2000000) only [Act.put, List.setIfInBounds_toArray, List.set_cons_zero, List.set_cons_succ, List.getElem_toArray, List.getElem_cons_zero, List.getElem_cons_succ]
              refine wpAnyH_take (i := 4) (oi := _) (v := ?_) rfl (by kernel_rfl) (by kernel_rfl) (by kernel_rfl) (fun _ _ _ h => h) (Or.inl ⟨by rfl, ?_⟩) (by assumption) ?_
              rotate_left
              · intro w hSw
                go_simp
                first | done | with_reducible rfl
              try simp (maxSteps := 2000000) only [Act.put, List.setIfInBounds_toArray, List.set_cons_zero, List.set_cons_succ, List.getElem_toArray, List.getElem_cons_zero, List.getElem_cons_succ]
              refine wpAnyH_take (i := 5) (oi := _) (v := ?_) rfl (by kernel_rfl) (by kernel_rfl) (by kernel_rfl) (fun _ _ _ h => h) (Or.inl ⟨by rfl, ?_⟩) (by assumption) ?_
              rotate_left
              · intro w hSw
                go_simp
                first | done | with_reducible rfl
              try simp (maxSteps := 2000000) only [Act.put, List.setIfInBounds_toArray, List.set_cons_zero, List.set_cons_succ, List.getElem_toArray, List.getElem_cons_zero, List.getElem_cons_succ]
              refine wpAnyH_take (i := 6) (oi := _) (v := ?_) rfl (by kernel_rfl) (by kernel_rfl) (by kernel_rfl) (fun _ _ _ h => h) (Or.inl ⟨by rfl, ?_⟩) (by assumption) ?_
              rotate_left
              · intro w hSw
                go_simp
                first | done | with_reducible rfl
              try simp (maxSteps := 2000000) only [Act.put, List.setIfInBounds_toArray, List.set_cons_zero, List.set_cons_succ, List.getElem_toArray, List.getElem_cons_zero, List.getElem_cons_succ]
              refine wpAnyH_take (i := 7) (oi := _) (v := ?_) rfl (by kernel_rfl) (by kernel_rfl) (by kernel_rfl) (fun _ _ _ h => h) (Or.inl ⟨by rfl, ?_⟩) (by assumption) ?_
              rotate_left
              · intro w hSw
                go_simp
                first | done | with_reducible rfl
              try simp (maxSteps := 2000000) only [Act.put, List.setIfInBounds_toArray, List.set_cons_zero, List.set_cons_succ, List.getElem_toArray, List.getElem_cons_zero, List.getElem_cons_succ]
              have O0 := (On.refl wr).drew
              generalize wr.drew = wd at *
              refine wpAnyH_ready (rs := [8]) (by kernel_rfl) (by simp) ?_
              refine AllReadyH.cons (o := _) rfl (fun K hK => ?_) AllReadyH.nil
              go_simp
              refine (HE.out _).mono ?_
              rintro e we ⟨rfl, Oe⟩
              have O1 := O0.call Oe
              refine hK.out _ _ O1 (fun hHeld => ?_)
              clear hK K
              try simp (maxSteps := 2000000) only [Act.put, List.setIfInBounds_toArray, List.set_cons_zero, List.set_cons_succ, List.getElem_toArray, List.getElem_cons_zero, List.getElem_cons_succ]
              refine wpAnyH_take (i := 9) (oi := _) (v := ?_) rfl (by kernel_rfl) (by kernel_rfl) (by kernel_rfl) (fun _ _ _ h => h) (Or.inl ⟨by rfl, ?_⟩) (by assumption) ?_
              rotate_left
              · intro w hSw
                go_simp
                first | done | with_reducible rfl
              try simp (maxSteps := 2000000) only [Act.put, List.setIfInBounds_toArray, List.set_cons_zero, List.set_cons_succ, List.getElem_toArray, List.getElem_cons_zero, List.getElem_cons_succ]
              refine wpAnyH_done (by kernel_rfl) ?_ _
              go_wp2_with fail
              go_ret2
              exact FZ.out _ O1
end Go.Proofs.YtnadjlejlohgiaaGreatDoor.Lc

/- A file of an archive read back: the specification's LocalGet. -/
namespace Go.Proofs.YtnadjlejlohgiaaGreatDoor.Lc
open Go.RowKit Go.Proofs.YtnadjlejlohgiaaGreatDoor.Mem Go.Proofs.YtnadjlejlohgiaaGreatDoor.Nm Go.Proofs.YtnadjlejlohgiaaGreatDoor.Nb Go.Proofs.YtnadjlejlohgiaaGreatDoor.Cr Go.Proofs.YtnadjlejlohgiaaGreatDoor.Wi
set_option linter.unusedVariables false
set_option linter.unusedSimpArgs false
theorem sread_calls (s : ByteArray) (hs : s.size ≤ 1048576) (w : World) :
    Calls Tryz.prog 34 #[.string s] w (fun e w' => ∃ nm y m d h mi se tx n b, e = .returned (.tuple #[.agg #[.string nm, .int .i64 y, .int .i64 m, .int .i64 d, .int .i64 h, .int .i64 mi, .int .i64 se, .string tx], .int .i64 n, .bool b]) ∧ On w w' ∧ RdIs s ⟨nm, y, m, d, h, mi, se, tx⟩ n b) := by
  by_cases hh : headOk s
  · exact (sread_yes s hs hh w).mono fun e w' ⟨f, n, b, h1, h2, h3⟩ => ⟨f.nm, f.y, f.m, f.d, f.h, f.mi, f.s, f.tx, n, b, h1, h2, h3⟩
  · refine (sread_no s hs hh w).mono ?_
    rintro e w' ⟨rfl, O⟩
    exact ⟨_, _, _, _, _, _, _, _, 0, false, rfl, O, ⟨by rw [no_head hh]; rfl, fun o ho => by rw [no_head hh] at ho; cases ho⟩⟩
end Go.Proofs.YtnadjlejlohgiaaGreatDoor.Lc

