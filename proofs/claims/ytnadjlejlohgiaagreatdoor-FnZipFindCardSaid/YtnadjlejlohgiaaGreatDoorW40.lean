/- Own texts joined: Zk, Zg0, Zg1, Da. -/
import Derived.Deep.DeepCutAuto
import Derived.WalkSpells
import Derived.Deep.RegionHeld3
import Derived.Test.YtnadjlejlohgiaaGreatDoorW0
import Derived.Test.YtnadjlejlohgiaaGreatDoorW2
import Derived.Test.YtnadjlejlohgiaaGreatDoorW4
import Derived.Test.YtnadjlejlohgiaaGreatDoorW35
import Derived.Test.YtnadjlejlohgiaaGreatDoorW37
import Derived.Test.YtnadjlejlohgiaaGreatDoorW38
import Derived.Test.YtnadjlejlohgiaaGreatDoorW39
/- The list of heads at an archive's end, and the end: the program's. (Printed by tools/gen_zk.py.) -/
namespace Go.Proofs.YtnadjlejlohgiaaGreatDoor.Lc
open Go.RowKit Go.Proofs.YtnadjlejlohgiaaGreatDoor.Mem Go.Proofs.YtnadjlejlohgiaaGreatDoor.Nm Go.Proofs.YtnadjlejlohgiaaGreatDoor.Nb Go.Proofs.YtnadjlejlohgiaaGreatDoor.Cr
set_option linter.unusedVariables false
set_option linter.unusedSimpArgs false
/-- Texts that lie in a block, one a cell. -/
structure Strs (w : World) (r : Nat) (ls : List ByteArray) : Prop where mk :: (out : ∀ i, i < ls.length → w.cell? ⟨r, i, none⟩ = some (.string (ls.getD i ⟨#[]⟩)))
theorem Strs.on {w w' : World} {r : Nat} {ls : List ByteArray} (h : Strs w r ls) (O : On w w') : Strs w' r ls :=
  ⟨fun i hi => (O.cell (World.block_lt_of_cell? w _ (h.out i hi))).trans (h.out i hi)⟩
theorem num_lt (l : ByteArray) : numAtB l 26 2 < 65536 := by
  have h : numAtB l 26 2 < 256 ^ 2 := by
    unfold numAtB at_
    refine Nat.lt_of_lt_of_le (numOf_lt fun x hx => ?_) (Nat.pow_le_pow_right (by decide) (Nat.le_trans (List.length_take_le _ _) (Nat.le_refl _)))
    obtain ⟨y, _, rfl⟩ := List.mem_map.1 (List.mem_of_mem_drop (List.mem_of_mem_take hx))
    exact y.toNat_lt
  exact h
theorem cHead_size {l : ByteArray} (h : 30 + numAtB l 26 2 ≤ l.size) (p : Nat) : (cHead l p).size = 46 + numAtB l 26 2 := by
  unfold cHead
  simp only [ByteArray.size_append, nB_size, ByteArray.size_extract]
  show 4 + 2 + (min 30 l.size - 4) + 10 + 4 + (min (30 + numAtB l 26 2) l.size - 30) = _
  omega
theorem hds_le {ls : List ByteArray} (hz : ∀ l, l ∈ ls → 30 + numAtB l 26 2 ≤ l.size) : ∀ {k : Nat}, k ≤ ls.length → (hdsL ls k).size ≤ k * 70000
  | 0, _ => Nat.le_refl _
  | k + 1, h => by
    have ih := hds_le hz (k := k) (by omega)
    have hm : ls.getD k ⟨#[]⟩ ∈ ls := by rw [List.getD_eq_getElem?_getD, List.getElem?_eq_getElem (by omega)]; exact List.getElem_mem _
    have h1 := cHead_size (hz _ hm) (atL ls k)
    have h2 := num_lt (ls.getD k ⟨#[]⟩)
    show (hdsL ls k ++ cHead (ls.getD k ⟨#[]⟩) (atL ls k)).size ≤ _
    rw [ByteArray.size_append]
    omega
theorem atL_succ {ls : List ByteArray} {k : Nat} (h : k < ls.length) : atL ls (k + 1) = atL ls k + (ls.getD k ⟨#[]⟩).size := by
  unfold atL
  rw [List.take_succ_eq_append_getElem h, List.map_append, List.sum_append, List.getD_eq_getElem?_getD, List.getElem?_eq_getElem h]
  simp
theorem atL_le {ls : List ByteArray} (hz : ∀ l, l ∈ ls → l.size ≤ 1048576) : ∀ {k : Nat}, k ≤ ls.length → atL ls k ≤ k * 1048576
  | 0, _ => Nat.le_refl _
  | k + 1, h => by
    have ih := atL_le hz (k := k) (by omega)
    have hm : ls.getD k ⟨#[]⟩ ∈ ls := by rw [List.getD_eq_getElem?_getD, List.getElem?_eq_getElem (by omega)]; exact List.getElem_mem _
    have h1 := hz _ hm
    rw [atL_succ (by omega)]
    omega
theorem in010_calls (w : World) : Calls Tryz.prog 64 #[.int .i64 0, .int .i64 10] w (fun e w' => e = .returned (.string (nB 10 0)) ∧ On w w') := by
  have h := inB_calls 0 10 (by decide) (by decide) w
  rw [show ((0 : Nat) : Int) = 0 from rfl, show ((10 : Nat) : Int) = 10 from rfl] at h
  exact h
theorem in04_calls (w : World) : Calls Tryz.prog 64 #[.int .i64 0, .int .i64 4] w (fun e w' => e = .returned (.string (nB 4 0)) ∧ On w w') := by
  have h := in4_calls 0 (by decide) w
  rw [show ((0 : Nat) : Int) = 0 from rfl] at h
  exact h
theorem iat26_calls (s : ByteArray) (hs : s.size ≤ 4294967296) (h : 28 ≤ s.size) (w : World) : Calls Tryz.prog 60 #[.string s, .int .i64 26, .int .i64 2] w (fun e w' => e = .returned (.int .i64 (numAtB s 26 2 : Nat)) ∧ w' = w) := by
  have h := inumat_calls s 26 2 hs h (by decide) w
  rw [show ((26 : Nat) : Int) = 26 from rfl, show ((2 : Nat) : Int) = 2 from rfl] at h
  exact h
set_option maxRecDepth 100000 in
set_option maxHeartbeats 8000000 in
theorem closing_calls (r cap : Nat) (ls : List ByteArray) (w : World) (hs : Strs w r ls) (hn : ls.length ≤ 6) (hz : ∀ l, l ∈ ls → 30 + numAtB l 26 2 ≤ l.size) (hz2 : ∀ l, l ∈ ls → l.size ≤ 1048576) :
    Calls Tryz.prog 38 #[.slice (some ⟨r, 0, none⟩) ls.length cap] w (fun e w' => e = .returned (.string (closB ls)) ∧ On w w') := by
  have HR := Lib.hid (show closB ls = (((((((hdsL ls ls.length ++ ⟨#[80, 75, 5, 6]⟩) ++ nB 4 0) ++ nB 2 ls.length) ++ nB 2 ls.length) ++ nB 4 (hdsL ls ls.length).size) ++ nB 4 (atL ls ls.length)) ++ nB 2 0) from rfl)
  have HHL := Lib.hid (fun k (h : k ≤ ls.length) => hds_le hz h)
  have HAL := Lib.hid (fun k (h : k ≤ ls.length) => atL_le hz2 h)
  have HHS := Lib.hid (fun k => (show hdsL ls (k + 1) = hdsL ls k ++ cHead (ls.getD k ⟨#[]⟩) (atL ls k) from rfl))
  have HAS := Lib.hid (fun k (h : k < ls.length) => atL_succ h)
  have HM := Lib.hid (fun k (h : k < ls.length) => (show ls.getD k ⟨#[]⟩ ∈ ls by rw [List.getD_eq_getElem?_getD, List.getElem?_eq_getElem h]; exact List.getElem_mem _))
  have HZ := Lib.hid (fun k h => hz _ (HM.out k h))
  have HZ2 := Lib.hid (fun k h => hz2 _ (HM.out k h))
  have HS := Lib.hid (fun W (O : On w W) => (hs.on O).out)
  have h0 : hdsL ls 0 = ⟨#[]⟩ := rfl
  have h1 : atL ls 0 = 0 := rfl
  have H0 := Lib.hid h0
  have H1 := Lib.hid h1
  clear h0 h1 hs hz hz2
  generalize closB ls = RES at *
  generalize hlen : ls.length = n at *
  clear hlen
  go_enter Tryz.func38, Tryz.ntmps38
  go_wp2_with fail
  go_loopw [3, 4, 6, 7, 11] (fun hv av lv nv x wr => ∃ k : Nat, x = .int .i64 k ∧ k ≤ n ∧ hv = .string (hdsL ls k) ∧ av = .int .i64 (atL ls k : Nat) ∧ On w wr) (fun _ _ _ _ x _ => n - (intOf x).toNat)
  case atStart => exact ⟨0, rfl, by omega, by rw [H0.out], by rw [H1.out]; rfl, On.refl w⟩
  case round =>
    obtain ⟨k, rfl, hk, rfl, rfl, O⟩ := hrel
    have a1 := HHL.out k hk
    have a2 := HAL.out k hk
    by_cases hlt : k < n
    · have c0 := HS.out _ O k hlt
      have b1 := HZ.out k hlt
      have b2 := HZ2.out k hlt
      have hE := HHS.out k
      have hA := HAS.out k hlt
      unfold cHead at hE
      have hnl := num_lt (ls.getD k ⟨#[]⟩)
      have HN := Lib.hid (fun w => iat26_calls (ls.getD k ⟨#[]⟩) (by omega) (by omega) w)
      have e4 : ((ls.getD k ⟨#[]⟩).extract 4 30).size = 26 := by rw [ByteArray.size_extract]; omega
      have e5 : ((ls.getD k ⟨#[]⟩).extract 30 (30 + numAtB (ls.getD k ⟨#[]⟩) 26 2)).size = numAtB (ls.getD k ⟨#[]⟩) 26 2 := by rw [ByteArray.size_extract]; omega
      have HE := Lib.hid hE
      have HA := Lib.hid hA
      clear hE hA
      generalize hdsL ls k = H at *
      generalize atL ls k = a at *
      generalize ls.getD k ⟨#[]⟩ = l at *
      generalize numAtB l 26 2 = nz at *
      have HA4 := Lib.hid (fun w => in4_calls a (by omega) w)
      have H20 := Lib.hid (fun w => in20_calls w)
      have H10 := Lib.hid (fun w => in010_calls w)
      have s1 := nB_size 2 20
      have s2 := nB_size 10 0
      have s3 := nB_size 4 a
      generalize nB 2 20 = p1 at *
      generalize nB 10 0 = p2 at *
      generalize nB 4 a = p3 at *
      have g1 : (30 : Int) ≤ (l.size : Int) := by omega
      have g2 : (0 : Int) ≤ 30 + (nz : Int) := by omega
      have g3 : 30 + (nz : Int) ≤ (l.size : Int) := by omega
      have g4 : (30 : Int) ≤ 30 + (nz : Int) := by omega
      have g5 : (30 + (nz : Int)).toNat = 30 + nz := by omega
      have g6 : IntKind.i64.wrap (30 + (nz : Int)) = 30 + (nz : Int) := by rw [IntKind.wrap_i64]; omega
      have g7 : IntKind.i64.wrap ((a : Int) + (l.size : Int)) = (a : Int) + (l.size : Int) := by rw [IntKind.wrap_i64]; omega
      generalize hq4 : l.extract 4 30 = x4 at *
      generalize hq5 : l.extract 30 (30 + nz) = x5 at *
      have z1 : ¬ 9223372036854775807 < 46 + nz := by omega
      have z2 : ¬ 9223372036854775807 < H.size + (46 + nz) := by omega
      have z3 : ¬ 9223372036854775807 < 4 + 2 + 26 + 10 + 4 + nz := by omega
      have z4 : ¬ 9223372036854775807 < H.size + (4 + 2 + 26 + 10 + 4 + nz) := by omega
      go_wp2_with fail
      refine (HN.out _).mono ?_
      rintro e w' ⟨rfl, hw⟩
      rw [hw]
      clear hw
      go_upto_region 7 with fail
      refine wp_region_held_drew (S := fun W => On wr W) (by kernel_rfl) (On.refl _).drew (fun hHeld => ?_)
      refine Tk.tk 0 ?_ rfl (.inl ⟨by rfl, ?_⟩) ?_
      rotate_left
      · intro w hSw; go_simp; first | done | with_reducible rfl
      try simp (maxSteps := 2000000) only [Act.put, Tk.s6]
      refine Tk.tk 3 ?_ rfl (.inl ⟨by rfl, ?_⟩) ?_
      rotate_left
      · intro w hSw; go_simp; first | done | with_reducible rfl
      try simp (maxSteps := 2000000) only [Act.put, Tk.s6]
      refine Tk.tk 4 ?_ rfl (.inl ⟨by rfl, ?_⟩) ?_
      rotate_left
      · intro w hSw; go_simp; first | done | with_reducible rfl
      try simp (maxSteps := 2000000) only [Act.put, Tk.s6]
      refine Tk.tk 8 ?_ rfl (.inl ⟨by rfl, ?_⟩) ?_
      rotate_left
      · intro w hSw; go_simp; first | done | with_reducible rfl
      try simp (maxSteps := 2000000) only [Act.put, Tk.s6]
      refine Tk.tk 11 ?_ rfl (.inl ⟨by rfl, ?_⟩) ?_
      rotate_left
      · intro w hSw; go_simp; first | done | with_reducible rfl
      try simp (maxSteps := 2000000) only [Act.put, Tk.s6]
      refine Tk.tk 12 ?_ rfl (.inl ⟨by rfl, ?_⟩) ?_
      rotate_left
      · intro w hSw; go_simp; first | done | with_reducible rfl
      try simp (maxSteps := 2000000) only [Act.put, Tk.s6]
      refine Tk.tk 13 ?_ rfl (.inl ⟨by rfl, ?_⟩) ?_
      rotate_left
      · intro w hSw; go_simp; first | done | with_reducible rfl
      try simp (maxSteps := 2000000) only [Act.put, Tk.s6]
      refine Tk.tk 14 ?_ rfl (.inl ⟨by rfl, ?_⟩) ?_
      rotate_left
      · intro w hSw; go_simp; first | done | with_reducible rfl
      try simp (maxSteps := 2000000) only [Act.put, Tk.s6]
      have O0 := (On.refl wr).drew
      generalize wr.drew = wd at *
      refine Tk.rd 1 rfl fun K hK => ?_
      go_simp
      refine (H20.out _).mono ?_
      rintro e vO1 ⟨rfl, TO1⟩
      have O1 := O0.call TO1
      refine hK.out _ _ O1 (fun hHeld => ?_)
      clear hK K
      try simp (maxSteps := 2000000) only [Act.put, Tk.s6]
      refine Tk.tk 2 ?_ rfl (.inl ⟨by rfl, ?_⟩) ?_
      rotate_left
      · intro w hSw; go_simp; first | done | with_reducible rfl
      try simp (maxSteps := 2000000) only [Act.put, Tk.s6]
      refine Tk.tk 5 ?_ rfl (.inl ⟨by rfl, ?_⟩) ?_
      rotate_left
      · intro w hSw; go_simp; first | done | with_reducible rfl
      try simp (maxSteps := 2000000) only [Act.put, Tk.s6]
      refine Tk.rd 6 rfl fun K hK => ?_
      go_simp
      refine (H10.out _).mono ?_
      rintro e vO2 ⟨rfl, TO2⟩
      have O2 := O1.call TO2
      refine hK.out _ _ O2 (fun hHeld => ?_)
      clear hK K
      try simp (maxSteps := 2000000) only [Act.put, Tk.s6]
      refine Tk.tk 7 ?_ rfl (.inl ⟨by rfl, ?_⟩) ?_
      rotate_left
      · intro w hSw; go_simp; first | done | with_reducible rfl
      try simp (maxSteps := 2000000) only [Act.put, Tk.s6]
      refine Tk.rd 9 rfl fun K hK => ?_
      go_simp
      refine (HA4.out _).mono ?_
      rintro e vO3 ⟨rfl, TO3⟩
      have O3 := O2.call TO3
      refine hK.out _ _ O3 (fun hHeld => ?_)
      clear hK K
      try simp (maxSteps := 2000000) only [Act.put, Tk.s6]
      refine Tk.tk 10 ?_ rfl (.inl ⟨by rfl, ?_⟩) ?_
      rotate_left
      · intro w hSw; go_simp; first | done | with_reducible rfl
      try simp (maxSteps := 2000000) only [Act.put, Tk.s6]
      refine Tk.tk 15 ?_ rfl (.inl ⟨by rfl, ?_⟩) ?_
      rotate_left
      · intro w hSw; go_simp; first | done | with_reducible rfl
      try simp (maxSteps := 2000000) only [Act.put, Tk.s6]
      refine Tk.tk 16 ?_ rfl (.inl ⟨by rfl, ?_⟩) ?_
      rotate_left
      · intro w hSw; go_simp; first | done | with_reducible rfl
      try simp (maxSteps := 2000000) only [Act.put, Tk.s6]
      refine Tk.rd 17 rfl fun K hK => ?_
      go_simp
      refine hK.out _ _ O3 (fun hHeld => ?_)
      clear hK K
      try simp (maxSteps := 2000000) only [Act.put, Tk.s6]
      refine wpAnyH_done (by kernel_rfl) ?_ _
      go_wp2_with fail
      exact ⟨⟨k + 1, by go_num, by omega, by rw [HE.out], by rw [HA.out]; rfl, O.call O3⟩, by simp [intOf]; omega⟩
    · obtain rfl : k = n := by omega
      have HN2 := Lib.hid (fun w => in2_calls k (by omega) w)
      have HZ4 := Lib.hid (fun w => in04_calls w)
      have HZ2' := Lib.hid (fun w => in0_calls w)
      have s1 := nB_size 2 k
      have s2 := nB_size 4 0
      have s3 := nB_size 2 0
      have s4 := nB_size 4 (hdsL ls k).size
      have s5 := nB_size 4 (atL ls k)
      have HL4 := Lib.hid (fun w => in4_calls (hdsL ls k).size (by omega) w)
      have HA4 := Lib.hid (fun w => in4_calls (atL ls k) (by omega) w)
      generalize nB 4 (hdsL ls k).size = y4 at *
      generalize nB 4 (atL ls k) = y5 at *
      generalize hdsL ls k = H at *
      generalize atL ls k = a at *
      generalize nB 2 k = y1 at *
      generalize nB 4 0 = y2 at *
      generalize nB 2 0 = y3 at *
      have z1 : ¬ 9223372036854775807 < H.size + 4 := by omega
      have z2 : ¬ 9223372036854775807 < H.size + 4 + 4 := by omega
      have z3 : ¬ 9223372036854775807 < H.size + 4 + 4 + 2 := by omega
      have z4 : ¬ 9223372036854775807 < H.size + 4 + 4 + 2 + 2 := by omega
      have z5 : ¬ 9223372036854775807 < H.size + 4 + 4 + 2 + 2 + 4 := by omega
      have z6 : ¬ 9223372036854775807 < H.size + 4 + 4 + 2 + 2 + 4 + 4 := by omega
      have z7 : ¬ 9223372036854775807 < H.size + 4 + 4 + 2 + 2 + 4 + 4 + 2 := by omega
      go_wp2_with fail
      refine (HN2.out _).mono ?_
      rintro e w1 ⟨rfl, O1⟩
      go_wp2_with fail
      refine (HZ4.out _).mono ?_
      rintro e w2 ⟨rfl, O2⟩
      go_wp2_with fail
      refine (HL4.out _).mono ?_
      rintro e w3 ⟨rfl, O3⟩
      go_wp2_with fail
      refine (HA4.out _).mono ?_
      rintro e w4 ⟨rfl, O4⟩
      go_wp2_with fail
      refine (HZ2'.out _).mono ?_
      rintro e w5 ⟨rfl, O5⟩
      go_wp2_with fail
      go_ret
      exact ⟨by rw [HR.out]; rfl, O.call (O1.call (O2.call (O3.call (O4.call O5))))⟩
end Go.Proofs.YtnadjlejlohgiaaGreatDoor.Lc

/- The program's reading of an archive, over whatever is read at each place: ZipGet of the program. -/
namespace Go.Proofs.YtnadjlejlohgiaaGreatDoor.Lc
open Go.RowKit Go.Proofs.YtnadjlejlohgiaaGreatDoor.Mem Go.Proofs.YtnadjlejlohgiaaGreatDoor.Nm Go.Proofs.YtnadjlejlohgiaaGreatDoor.Nb Go.Proofs.YtnadjlejlohgiaaGreatDoor.Cr
set_option linter.unusedVariables false
set_option linter.unusedSimpArgs false
theorem entinfo : (Tryz.prog.info? 42).map (fun i => (i.zero, i.size, i.bytes)) = some (some (.agg #[.string ByteArray.empty, .int .i64 0, .int .i64 0, .int .i64 0, .int .i64 0, .int .i64 0, .int .i64 0, .string ByteArray.empty]), 8, 80) := by kernel_rfl
theorem strinfo2 : (Tryz.prog.info? 9).map (fun i => (i.zero, i.size, i.bytes)) = some (some (.string ByteArray.empty), 1, 16) := by kernel_rfl
theorem info_parts2 {t : TypeId} {z : Value} {s b : Nat} (h : (Tryz.prog.info? t).map (fun i => (i.zero, i.size, i.bytes)) = some (some z, s, b)) : ∃ i, Tryz.prog.info? t = some i ∧ i.zero = some z ∧ i.size = s ∧ i.bytes = b := by
  obtain ⟨i, hi, e⟩ := Option.map_eq_some_iff.1 h
  simp only [Prod.mk.injEq] at e
  exact ⟨i, hi, e.1, e.2.1, e.2.2⟩
/-- Rows of unlike elements lie in unlike blocks. -/
theorem row_ne' {w : World} {g1 g2 t1 t2 : Nat} {xs ys : List Value} (h1 : Row w g1 t1 xs) (h2 : Row w g2 t2 ys) (ht : t1 ≠ t2) : g1 ≠ g2 := by
  rintro rfl
  obtain ⟨cs, b1, _⟩ := h1.out
  obtain ⟨ds, b2, _⟩ := h2.out
  have e := b1.out.symm.trans b2.out
  simp at e
  exact ht e.2
/-- A row that a call made itself stays if its block stays. -/
theorem Own.keep' {base t size n : Nat} {w w' : World} {v : Value} {xs : List Value} (h : Own base w t size v n xs) (hk : ∀ g cs, v.ownBlock = some g → Blk w g t cs → Blk w' g t cs) : Own base w' t size v n xs := by
  refine ⟨⟨h.own.1, ?_⟩, h.nn⟩
  rcases h.own.2 with h0 | ⟨g, cap, cur, hv, hb, hh, rest⟩
  · exact .inl h0
  · exact .inr ⟨g, cap, cur, hv, hb, (hk g cur (by rw [hv]; rfl) ⟨hh⟩).out, rest⟩
/-- What is read at each place, in plain words. -/
structure ZRead (tl : Nat → ByteArray) (get : Nat → Option (Fi × Nat)) (fs : Nat → List Fi) (ps : Nat → List ByteArray) : Prop where
  f0 : fs 0 = []
  p0 : ps 0 = []
  plen : ∀ k, (ps k).length = k
  step : ∀ k f n, get k = some (f, n) → fs (k + 1) = fs k ++ [f] ∧ ps (k + 1) = ps k ++ [(tl k).extract 0 n] ∧ n ≤ (tl k).size ∧ tl (k + 1) = (tl k).extract n (tl k).size
  small : ∀ k, (tl k).size ≤ 1048576
  pz : ∀ k, (∀ i, i < k → (get i).isSome = true) → ∀ l, l ∈ ps k → 30 + numAtB l 26 2 ≤ l.size ∧ l.size ≤ 1048576
set_option maxRecDepth 100000 in
set_option maxHeartbeats 8000000 in
theorem izipget_gen (tl : Nat → ByteArray) (get : Nat → Option (Fi × Nat)) (fs : Nat → List Fi) (ps : Nat → List ByteArray) (Z : Nat → Prop) (R : ZRead tl get fs ps) (w : World)
    (HLs : ∀ k f n w', get k = some (f, n) → On w w' → Calls Tryz.prog 36 #[.string (tl k)] w' (Tells w' (.tuple #[.agg #[.string f.nm, .int .i64 f.y, .int .i64 f.m, .int .i64 f.d, .int .i64 f.h, .int .i64 f.mi, .int .i64 f.s, .string f.tx], .int .i64 (n : Nat), .bool true])))
    (HLn : ∀ k w', get k = none → On w w' → Calls Tryz.prog 36 #[.string (tl k)] w' (Tells w' (.tuple #[.agg #[.string ⟨#[]⟩, .int .i64 0, .int .i64 0, .int .i64 0, .int .i64 0, .int .i64 0, .int .i64 0, .string ⟨#[]⟩], .int .i64 0, .bool false])))
    (HZ : ∀ k g cap w', On w w' → (∀ i, i < k → (get i).isSome = true) → FiAt w' g 0 (fs k) → Calls Tryz.prog 37 #[.slice (some ⟨g, 0, none⟩) k cap] w' (fun e w'' => ∃ b : Bool, e = .returned (.bool b) ∧ On w' w'' ∧ (b = true ↔ Z k))) :
    Calls Tryz.prog 10 #[.string (tl 0)] w (fun e w' => ∃ (k : Nat) (v : Value) (b : Bool), k ≤ 6 ∧ (∀ i, i < k → (get i).isSome = true) ∧ (k = 6 ∨ get k = none) ∧ e = .returned (.tuple #[v, .bool b]) ∧ On w w' ∧
      ((b = true ∧ Z k ∧ tl k = closB (ps k) ∧ Own w.heap.size w' 42 8 v k (fcells (fs k))) ∨ (b = false ∧ ¬ (Z k ∧ tl k = closB (ps k)) ∧ Own w.heap.size w' 42 8 v 0 []))) := by
  have HLS := Lib.hid HLs
  have HLN := Lib.hid HLn
  clear HLs HLn
  obtain ⟨i0, hi, hz0, hz1, hz2⟩ := info_parts2 entinfo
  obtain ⟨i1, hj, hy0, hy1, hy2⟩ := info_parts2 strinfo2
  have OA := ((On.refl w).alloc (.cells #[] 42)).alloc (.cells #[] 9)
  have R1 := (Own.new (base := w.heap.size) w 42 8 #[] 0 (Nat.zero_le _) rfl (Nat.le_refl _)).on ((On.refl _).alloc (.cells #[] 9))
  have R2 := Own.new (base := w.heap.size) (w.alloc (.cells #[] 42)) 9 1 #[] 0 (Nat.zero_le _) rfl (by simp)
  go_enter Tryz.func10, Tryz.ntmps10
  go_wp2_with fail
  go_loopw [4, 5, 6, 7, 8, 9] (fun ov lv rv ev nv kv wr => ∃ k : Nat, k ≤ 6 ∧ (∀ i, i < k → (get i).isSome = true) ∧ Own w.heap.size wr 42 8 ov k (fcells (fs k)) ∧ Own w.heap.size wr 9 1 lv k ((ps k).map Value.string) ∧ rv = .string (tl k) ∧ On w wr) (fun ov _ _ _ _ _ _ => match ov with | .slice _ n _ => 6 - n | _ => 0)
  case atStart =>
    refine ⟨0, by omega, fun i hi => by omega, ?_, ?_, rfl, OA⟩
    · rw [R.f0]; exact R1
    · rw [R.p0]; simpa using R2
  case round =>
    obtain ⟨k, hk, hg, hown, hloc, rfl, O⟩ := hrel
    have hownF := hown
    obtain ⟨g1, c1, rfl, hb1, hrow1, hn1, hm1, hl1⟩ := hown.parts
    obtain ⟨g2, c2, rfl, hb2, hrow2, hn2, hm2, hl2⟩ := hloc.parts
    by_cases hlt : k < 6
    · have hlt' : (k : Int) < 6 := by omega
      cases hgk : get k with
      | none =>
        have hend : k = 6 ∨ get k = none := .inr hgk
        have HL := Lib.hid (HLN.out k wr hgk O)
        go_wp2_with fail
        refine HL.out.mono ?_
        rintro e w1 ⟨rfl, O1⟩
        have Ob := (O.call O1).alloc (.cells #[.string ⟨#[]⟩, .int .i64 0, .int .i64 0, .int .i64 0, .int .i64 0, .int .i64 0, .int .i64 0, .string ⟨#[]⟩] 42)
        have h1 := (hrow1.on O1).on ((On.refl w1).alloc (.cells #[.string ⟨#[]⟩, .int .i64 0, .int .i64 0, .int .i64 0, .int .i64 0, .int .i64 0, .int .i64 0, .string ⟨#[]⟩] 42))
        have h2 := (hrow2.on O1).on ((On.refl w1).alloc (.cells #[.string ⟨#[]⟩, .int .i64 0, .int .i64 0, .int .i64 0, .int .i64 0, .int .i64 0, .int .i64 0, .string ⟨#[]⟩] 42))
        replace hownF := (hownF.on O1).on ((On.refl w1).alloc (.cells #[.string ⟨#[]⟩, .int .i64 0, .int .i64 0, .int .i64 0, .int .i64 0, .int .i64 0, .int .i64 0, .string ⟨#[]⟩] 42))
        go_upto_region 10 with fail
        generalize w1.alloc (.cells #[.string ⟨#[]⟩, .int .i64 0, .int .i64 0, .int .i64 0, .int .i64 0, .int .i64 0, .int .i64 0, .string ⟨#[]⟩] 42) = wb at *
        have HZk := Lib.hid (HZ k g1 c1 wb Ob hg (FiAt.row h1))
        have hstr : Strs wb g2 (ps k) := ⟨fun i hi => h2.cell (by
          rw [List.getElem?_map, List.getElem?_eq_getElem hi, List.getD_eq_getElem?_getD, List.getElem?_eq_getElem hi]; rfl)⟩
        have HC := Lib.hid (fun w' (T : On wb w') => closing_calls g2 c2 (ps k) w' (hstr.on T) (by rw [R.plen]; exact hk) (fun l hl => (R.pz k hg l hl).1) (fun l hl => (R.pz k hg l hl).2))
        rw [R.plen] at HC
        go_wp2_with fail
        refine HZk.out.mono ?_
        rintro e wz ⟨b, rfl, Oz, hbz⟩
        cases b with
        | false =>
          have hnz : ¬ Z k := fun q => by have := hbz.2 q; cases this
          go_wp2_with fail
          go_ret2
          exact ⟨k, _, false, hk, hg, hend, rfl, (Ob.call Oz).alloc _, .inr ⟨rfl, fun q => hnz q.1, Own.new wz 42 8 #[] 0 (Nat.zero_le _) rfl (by have := (Ob.call Oz).size; omega)⟩⟩
        | true =>
          have hzk : Z k := hbz.1 rfl
          go_wp2_with fail
          refine (HC.out wz Oz).mono ?_
          rintro e wc ⟨rfl, Oc⟩
          by_cases hq : tl k = closB (ps k)
          · have hq2 : ((tl k).toList == (closB (ps k)).toList) = true := by rw [hq]; exact beq_self_eq_true _
            go_wp2_with fail
            go_ret2
            exact ⟨k, _, true, hk, hg, hend, rfl, (Ob.call Oz).call Oc, .inl ⟨rfl, hzk, hq, (hownF.on Oz).on Oc⟩⟩
          · have hq2 : ((tl k).toList == (closB (ps k)).toList) = false := by
              rw [beq_eq_false_iff_ne, ByteArray.toList_eq, ByteArray.toList_eq]
              intro q
              exact hq (ByteArray.ext (Array.toList_inj.1 q))
            go_wp2_with fail
            go_ret2
            exact ⟨k, _, false, hk, hg, hend, rfl, ((Ob.call Oz).call Oc).alloc _, .inr ⟨rfl, fun q => hq q.2, Own.new wc 42 8 #[] 0 (Nat.zero_le _) rfl (by have := ((Ob.call Oz).call Oc).size; omega)⟩⟩
      | some r =>
        obtain ⟨⟨nm, y, m, d, h, mi, se, tx⟩, n⟩ := r
        have HL := Lib.hid (HLS.out k _ n wr hgk O)
        obtain ⟨st1, st2, st3, st4⟩ := R.step k _ n hgk
        have hsm := R.small k
        have HG := Lib.hid (show ∀ i, i < k + 1 → (get i).isSome = true from fun i hi => by
          by_cases e : i < k
          · exact hg i e
          · obtain rfl : i = k := by omega
            rw [hgk]; rfl)
        clear hgk
        have S1 := Lib.hid st1
        have S2 := Lib.hid st2
        have S4 := Lib.hid st4
        clear st1 st2 st4
        have hng : g1 ≠ g2 := row_ne' hrow1 hrow2 (by decide)
        go_wp2_with fail
        refine HL.out.mono ?_
        rintro e w1 ⟨rfl, O1⟩
        have Ob := (O.call O1).alloc (.cells #[.string nm, .int .i64 y, .int .i64 m, .int .i64 d, .int .i64 h, .int .i64 mi, .int .i64 se, .string tx] 42)
        have BB := Blk.new w1 42 #[.string nm, .int .i64 y, .int .i64 m, .int .i64 d, .int .i64 h, .int .i64 mi, .int .i64 se, .string tx]
        have hownb := (hown.on O1).on ((On.refl w1).alloc (.cells #[.string nm, .int .i64 y, .int .i64 m, .int .i64 d, .int .i64 h, .int .i64 mi, .int .i64 se, .string tx] 42))
        have hlocb := (hloc.on O1).on ((On.refl w1).alloc (.cells #[.string nm, .int .i64 y, .int .i64 m, .int .i64 d, .int .i64 h, .int .i64 mi, .int .i64 se, .string tx] 42))
        go_upto_region 7 with fail
        obtain ⟨q, hq⟩ : ∃ q, q = w1.heap.size := ⟨_, rfl⟩
        rw [← hq] at BB ⊢
        generalize w1.alloc (.cells #[.string nm, .int .i64 y, .int .i64 m, .int .i64 d, .int .i64 h, .int .i64 mi, .int .i64 se, .string tx] 42) = wb at *
        clear hq
        have t0 : wb.cell? ⟨q, 0, none⟩ = some (.string nm) := (BB.cell 0).trans rfl
        have t1 : wb.cell? ⟨q, 1, none⟩ = some (.int .i64 y) := (BB.cell 1).trans rfl
        have t2 : wb.cell? ⟨q, 2, none⟩ = some (.int .i64 m) := (BB.cell 2).trans rfl
        have t3 : wb.cell? ⟨q, 3, none⟩ = some (.int .i64 d) := (BB.cell 3).trans rfl
        have t4 : wb.cell? ⟨q, 4, none⟩ = some (.int .i64 h) := (BB.cell 4).trans rfl
        have t5 : wb.cell? ⟨q, 5, none⟩ = some (.int .i64 mi) := (BB.cell 5).trans rfl
        have t6 : wb.cell? ⟨q, 6, none⟩ = some (.int .i64 se) := (BB.cell 6).trans rfl
        have t7 : wb.cell? ⟨q, 7, none⟩ = some (.string tx) := (BB.cell 7).trans rfl
        go_upto_region 8 with (at_builtin; go_must (refine wpList_app rfl _ _ 22 rfl w i0 (.agg #[.string ByteArray.empty, .int .i64 0, .int .i64 0, .int .i64 0, .int .i64 0, .int .i64 0, .int .i64 0, .string ByteArray.empty]) 80 8 Tryz.underlying22 hi hz0 hz1 hz2 rfl (by decide) rfl _ _ _ rfl hownb Ob (by simp [Act.eval]) (by simp [Value.oneCell']) (by unfold maxLen; omega) (by omega) ?_); intro v3 w3 hown3 O3 hk3)
        have hloc3 := Own.keep' hlocb (fun g cs hg b => hk3 g _ cs b (by
          intro e
          have e2 : some g1 = some g := e
          have e3 : some g2 = some g := hg
          exact hng (Option.some.inj (e2.trans e3.symm))))
        clear t0 t1 t2 t3 t4 t5 t6 t7 BB hownb hlocb hown hloc
        obtain ⟨g3, c3, rfl, hb3, hrow3, hn3, hm3, hl3⟩ := hown3.parts
        obtain ⟨g4, c4, hv4, hb4, hrow4, hn4, hm4, hl4⟩ := hloc3.parts
        have hg4 : g4 = g2 := by simp at hv4; exact hv4.1.symm
        have hng3 : g3 ≠ g2 := by rw [← hg4]; exact row_ne' hrow3 hrow4 (by decide)
        have u1 : (0 : Int) ≤ (n : Int) := by omega
        have u2 : (n : Int) ≤ ((tl k).size : Int) := by omega
        go_upto_region 9 with (at_builtin; go_must (refine wpList_app rfl _ _ 34 rfl w i1 (.string ByteArray.empty) 16 1 Tryz.underlying34 hj hy0 hy1 hy2 rfl (by decide) rfl _ _ _ rfl hloc3 O3 (by simp [Act.eval]) (by simp [Value.oneCell']) (by unfold maxLen; omega) (by omega) ?_); intro v5 w5 hloc5 O5 hk5)
        have hown5 := Own.keep' hown3 (fun g cs hg b => hk5 g _ cs b (by
          intro e
          have e2 : some g2 = some g := e
          have e3 : some g3 = some g := hg
          exact hng3 (Option.some.inj (e3.trans e2.symm))))
        go_wp2_with fail
        refine ⟨⟨k + 1, by omega, HG.out, ?_, ?_, by rw [S4.out], O5⟩, by simp; omega⟩
        · rw [S1.out, fcells_append]
          exact hown5
        · rw [S2.out, List.map_append]
          exact hloc5
    · have hlt' : ¬ (k : Int) < 6 := by omega
      have hend : k = 6 ∨ get k = none := .inl (by omega)
      have HZk := Lib.hid (HZ k g1 c1 wr O hg (FiAt.row hrow1))
      have hstr : Strs wr g2 (ps k) := ⟨fun i hi => hrow2.cell (by
        rw [List.getElem?_map, List.getElem?_eq_getElem hi, List.getD_eq_getElem?_getD, List.getElem?_eq_getElem hi]; rfl)⟩
      have HC := Lib.hid (fun w' (T : On wr w') => closing_calls g2 c2 (ps k) w' (hstr.on T) (by rw [R.plen]; exact hk) (fun l hl => (R.pz k hg l hl).1) (fun l hl => (R.pz k hg l hl).2))
      rw [R.plen] at HC
      go_wp2_with fail
      refine HZk.out.mono ?_
      rintro e wz ⟨b, rfl, Oz, hbz⟩
      cases b with
      | false =>
        have hnz : ¬ Z k := fun q => by have := hbz.2 q; cases this
        go_wp2_with fail
        go_ret2
        exact ⟨k, _, false, hk, hg, hend, rfl, (O.call Oz).alloc _, .inr ⟨rfl, fun q => hnz q.1, Own.new wz 42 8 #[] 0 (Nat.zero_le _) rfl (by have := (O.call Oz).size; omega)⟩⟩
      | true =>
        have hzk : Z k := hbz.1 rfl
        go_wp2_with fail
        refine (HC.out wz Oz).mono ?_
        rintro e wc ⟨rfl, Oc⟩
        by_cases hq : tl k = closB (ps k)
        · have hq2 : ((tl k).toList == (closB (ps k)).toList) = true := by rw [hq]; exact beq_self_eq_true _
          go_wp2_with fail
          go_ret2
          exact ⟨k, _, true, hk, hg, hend, rfl, (O.call Oz).call Oc, .inl ⟨rfl, hzk, hq, (hownF.on Oz).on Oc⟩⟩
        · have hq2 : ((tl k).toList == (closB (ps k)).toList) = false := by
            rw [beq_eq_false_iff_ne, ByteArray.toList_eq, ByteArray.toList_eq]
            intro q
            exact hq (ByteArray.ext (Array.toList_inj.1 q))
          go_wp2_with fail
          go_ret2
          exact ⟨k, _, false, hk, hg, hend, rfl, ((O.call Oz).call Oc).alloc _, .inr ⟨rfl, fun q => hq q.2, Own.new wc 42 8 #[] 0 (Nat.zero_le _) rfl (by have := ((O.call Oz).call Oc).size; omega)⟩⟩
end Go.Proofs.YtnadjlejlohgiaaGreatDoor.Lc

/- The reference's reading of files one behind the other, over whatever is read at each place: l7Get. -/
namespace Go.Proofs.YtnadjlejlohgiaaGreatDoor.Lc
open Go.RowKit Go.Proofs.YtnadjlejlohgiaaGreatDoor.Mem Go.Proofs.YtnadjlejlohgiaaGreatDoor.Nm Go.Proofs.YtnadjlejlohgiaaGreatDoor.Nb Go.Proofs.YtnadjlejlohgiaaGreatDoor.Cr
set_option linter.unusedVariables false
set_option linter.unusedSimpArgs false
/-- What is read at each place of a text, in plain words. -/
structure SRead (s : ByteArray) (pos : Nat → Nat) (get : Nat → Option (Fi × Nat)) (fs : Nat → List Fi) : Prop where
  f0 : fs 0 = []
  p0 : pos 0 = 0
  step : ∀ k f n, get k = some (f, n) → fs (k + 1) = fs k ++ [f] ∧ pos (k + 1) = pos k + n
  le : ∀ k, (∀ i, i < k → (get i).isSome = true) → pos k ≤ s.size
/-- What l7Get answers. -/
def L7Out (w : World) (many : Nat) (pos : Nat → Nat) (get : Nat → Option (Fi × Nat)) (fs : Nat → List Fi) (e : Ending) (w' : World) : Prop := ∃ (k : Nat) (v : Value) (b : Bool), k ≤ many ∧ (∀ i, i < k → (get i).isSome = true) ∧ ((b = true ∧ k = many) ∨ (b = false ∧ get k = none ∧ k < many)) ∧ e = .returned (.tuple #[v, .int .i64 (pos k : Nat), .bool b]) ∧ On w w' ∧
      Own w.heap.size w' 42 8 v k (fcells (fs k))
theorem L7Out.of {w : World} {many : Nat} {pos : Nat → Nat} {get : Nat → Option (Fi × Nat)} {fs : Nat → List Fi} {e : Ending} {w' : World} (h : ∃ (k : Nat) (v : Value) (b : Bool), k ≤ many ∧ (∀ i, i < k → (get i).isSome = true) ∧ ((b = true ∧ k = many) ∨ (b = false ∧ get k = none ∧ k < many)) ∧ e = .returned (.tuple #[v, .int .i64 (pos k : Nat), .bool b]) ∧ On w w' ∧
      Own w.heap.size w' 42 8 v k (fcells (fs k))) : L7Out w many pos get fs e w' := h
theorem res_ttt {P : Program} {fn : Func} {tmps : Array Value} {w : World} {p u v : Tmp} (h : fn.results = #[.tmp p, .tmp u, .tmp v]) :
    (results fn tmps).run P w = .ok (.tuple #[tmps.getD p undef, tmps.getD u undef, tmps.getD v undef]) w := by
  simp [results, h]
set_option maxRecDepth 100000 in
set_option maxHeartbeats 8000000 in
theorem sl7get_gen (s : ByteArray) (hs : s.size ≤ 1048576) (pos : Nat → Nat) (get : Nat → Option (Fi × Nat)) (fs : Nat → List Fi) (R : SRead s pos get fs) (many : Nat) (hm : many ≤ 6) (w : World)
    (HRs : ∀ k f n w', get k = some (f, n) → On w w' → Calls Tryz.prog 34 #[.string (s.extract (pos k) s.size)] w' (Tells w' (.tuple #[.agg #[.string f.nm, .int .i64 f.y, .int .i64 f.m, .int .i64 f.d, .int .i64 f.h, .int .i64 f.mi, .int .i64 f.s, .string f.tx], .int .i64 (n : Nat), .bool true])))
    (HRn : ∀ k w', get k = none → On w w' → Calls Tryz.prog 34 #[.string (s.extract (pos k) s.size)] w' (fun e w'' => ∃ nm y m d h mi se tx n, e = .returned (.tuple #[.agg #[.string nm, .int .i64 y, .int .i64 m, .int .i64 d, .int .i64 h, .int .i64 mi, .int .i64 se, .string tx], .int .i64 n, .bool false]) ∧ On w' w'')) :
    Calls Tryz.prog 31 #[.string s, .int .i64 many] w (L7Out w many pos get fs) := by
  have HLS := Lib.hid HRs
  have HLN := Lib.hid HRn
  clear HRs HRn
  obtain ⟨i0, hi, hz0, hz1, hz2⟩ := info_parts2 entinfo
  have OA := (On.refl w).alloc (.cells #[] 42)
  have R1 := Own.new (base := w.heap.size) w 42 8 #[] 0 (Nat.zero_le _) rfl (Nat.le_refl _)
  have P0 := Lib.hid R.p0
  go_enter Tryz.func31, Tryz.ntmps31
  go_wp2_with fail
  go_loopw [7, 8, 9, 10, 11, 12] (fun ov av iv ev nv kv wr => ∃ k : Nat, k ≤ many ∧ iv = .int .i64 k ∧ av = .int .i64 (pos k : Nat) ∧ (∀ i, i < k → (get i).isSome = true) ∧ Own w.heap.size wr 42 8 ov k (fcells (fs k)) ∧ On w wr) (fun _ _ iv _ _ _ _ => many - (intOf iv).toNat)
  case atStart =>
    refine ⟨0, by omega, rfl, by rw [P0.out]; rfl, fun i hi => by omega, ?_, OA⟩
    rw [R.f0]; exact R1
  case round =>
    obtain ⟨k, hk, rfl, rfl, hg, hown, O⟩ := hrel
    by_cases hlt : k < many
    · have hlt' : (k : Int) < many := by omega
      have hle := R.le k hg
      have v1 : (0 : Int) ≤ (pos k : Int) := by omega
      have v2 : (pos k : Int) ≤ (s.size : Int) := by omega
      cases hgk : get k with
      | none =>
        have HL := Lib.hid (HLN.out k wr hgk O)
        go_wp2_with fail
        refine HL.out.mono ?_
        rintro e w1 ⟨nm, y, m, d, h, mi, se, tx, n, rfl, O1⟩
        have Ob := (O.call O1).alloc (.cells #[.string nm, .int .i64 y, .int .i64 m, .int .i64 d, .int .i64 h, .int .i64 mi, .int .i64 se, .string tx] 42)
        have hownb := (hown.on O1).on ((On.refl w1).alloc (.cells #[.string nm, .int .i64 y, .int .i64 m, .int .i64 d, .int .i64 h, .int .i64 mi, .int .i64 se, .string tx] 42))
        go_wp2_with fail
        refine bodyPost_ret (res_ttt (p := 4) (u := 5) (v := 6) rfl) rfl ?_
        exact L7Out.of ⟨k, _, false, hk, hg, .inr ⟨rfl, hgk, hlt⟩, rfl, Ob, hownb⟩
      | some r =>
        obtain ⟨⟨nm, y, m, d, h, mi, se, tx⟩, n⟩ := r
        have HL := Lib.hid (HLS.out k _ n wr hgk O)
        obtain ⟨st1, st2⟩ := R.step k _ n hgk
        have HG := Lib.hid (show ∀ i, i < k + 1 → (get i).isSome = true from fun i hi => by
          by_cases e : i < k
          · exact hg i e
          · obtain rfl : i = k := by omega
            rw [hgk]; rfl)
        clear hgk
        have hle2 := R.le (k + 1) HG.out
        rw [st2] at hle2
        have S1 := Lib.hid st1
        have S2 := Lib.hid st2
        clear st1 st2
        have e1 : IntKind.i64.wrap ((pos k : Int) + (n : Int)) = (pos k : Int) + (n : Int) := by rw [IntKind.wrap_i64]; omega
        go_wp2_with fail
        refine HL.out.mono ?_
        rintro e w1 ⟨rfl, O1⟩
        have Ob := (O.call O1).alloc (.cells #[.string nm, .int .i64 y, .int .i64 m, .int .i64 d, .int .i64 h, .int .i64 mi, .int .i64 se, .string tx] 42)
        have BB := Blk.new w1 42 #[.string nm, .int .i64 y, .int .i64 m, .int .i64 d, .int .i64 h, .int .i64 mi, .int .i64 se, .string tx]
        have hownb := (hown.on O1).on ((On.refl w1).alloc (.cells #[.string nm, .int .i64 y, .int .i64 m, .int .i64 d, .int .i64 h, .int .i64 mi, .int .i64 se, .string tx] 42))
        go_upto_region 9 with fail
        obtain ⟨q, hq⟩ : ∃ q, q = w1.heap.size := ⟨_, rfl⟩
        rw [← hq] at BB ⊢
        generalize w1.alloc (.cells #[.string nm, .int .i64 y, .int .i64 m, .int .i64 d, .int .i64 h, .int .i64 mi, .int .i64 se, .string tx] 42) = wb at *
        clear hq
        have t0 : wb.cell? ⟨q, 0, none⟩ = some (.string nm) := (BB.cell 0).trans rfl
        have t1 : wb.cell? ⟨q, 1, none⟩ = some (.int .i64 y) := (BB.cell 1).trans rfl
        have t2 : wb.cell? ⟨q, 2, none⟩ = some (.int .i64 m) := (BB.cell 2).trans rfl
        have t3 : wb.cell? ⟨q, 3, none⟩ = some (.int .i64 d) := (BB.cell 3).trans rfl
        have t4 : wb.cell? ⟨q, 4, none⟩ = some (.int .i64 h) := (BB.cell 4).trans rfl
        have t5 : wb.cell? ⟨q, 5, none⟩ = some (.int .i64 mi) := (BB.cell 5).trans rfl
        have t6 : wb.cell? ⟨q, 6, none⟩ = some (.int .i64 se) := (BB.cell 6).trans rfl
        have t7 : wb.cell? ⟨q, 7, none⟩ = some (.string tx) := (BB.cell 7).trans rfl
        obtain ⟨g1, c1, rfl, hb1, hrow1, hn1, hm1, hl1⟩ := hown.parts
        go_upto_region 10 with (at_builtin; go_must (refine wpList_app rfl _ _ 22 rfl w i0 (.agg #[.string ByteArray.empty, .int .i64 0, .int .i64 0, .int .i64 0, .int .i64 0, .int .i64 0, .int .i64 0, .string ByteArray.empty]) 80 8 Tryz.underlying22 hi hz0 hz1 hz2 rfl (by decide) rfl _ _ _ rfl hownb Ob (by simp [Act.eval]) (by simp [Value.oneCell']) (by unfold maxLen; omega) (by omega) ?_); intro v3 w3 hown3 O3 hk3)
        go_wp2_with fail
        refine ⟨⟨k + 1, by omega, by go_num, by rw [S2.out]; rfl, HG.out, ?_, O3⟩, by simp [intOf]; omega⟩
        rw [S1.out, fcells_append]
        exact hown3
    · have hkm : k = many := by omega
      have hlt' : ¬ (k : Int) < many := by omega
      clear hkm
      go_wp2_with fail
      refine bodyPost_ret (res_ttt (p := 4) (u := 5) (v := 6) rfl) rfl ?_
      exact L7Out.of ⟨k, _, true, hk, hg, .inl ⟨rfl, by omega⟩, rfl, O, hown⟩
end Go.Proofs.YtnadjlejlohgiaaGreatDoor.Lc

/- A file more in a list of files, the specification's: l8Add. (Printed by tools/gen_da.py.) -/
namespace Go.Proofs.YtnadjlejlohgiaaGreatDoor.Lc
open Go.RowKit Go.Proofs.YtnadjlejlohgiaaGreatDoor.Mem Go.Proofs.YtnadjlejlohgiaaGreatDoor.Nm Go.Proofs.YtnadjlejlohgiaaGreatDoor.Wi
set_option linter.unusedVariables false
set_option linter.unusedSimpArgs false
/-- 's = append(s, us..)' onto a row that the call made itself, as one operation. -/
theorem opwp_app {P : Program} {Q : Exit → Act → World → Prop} {o : Oper} {act : Act} {K : Act → World → Prop} {wr : World} {e : TypeId} (s x : Operand) (t : TypeId)
    (ho : o.op = .call { callee := .builtin .append, args := #[s, x], argTypes := #[t, t] })
    (a : World) (i : TypeInfo) (z : Value) (bytes size : Nat) (ht : P.underlying t = some (.slice e)) (hi : P.info? e = some i) (hz : i.zero = some z) (hsize : i.size = size) (hby : i.bytes = bytes) (hzs : z.cells.size = size) (hsz : 0 < size)
    (v : Value) (n : Nat) (xs : List Value) (hs : act.eval s = v) (hown : Own a.heap.size wr e size v n xs) (O : On a wr)
    (g m c : Nat) (us : List Value) (hx : act.eval x = .slice (some ⟨g, 0, none⟩) m c) (hl : us.length = m * size) (hus : ∀ j u, us[j]? = some u → wr.cell? ⟨g, j, none⟩ = some u) (h1 : ∀ u ∈ us, u.oneCell' = true) (h63 : n + m ≤ maxLen) (hbytes : (n + m) * bytes ≤ 140737488355328)
    (h : ∀ v' w', Own a.heap.size w' e size v' (n + m) (xs ++ us) → On a w' → (∀ g t' cs, Blk wr g t' cs → v.ownBlock ≠ some g → Blk w' g t' cs) → K (act.put o.dst v') w') : Oper.wp P o act wr K Q := by
  obtain ⟨v', w', hr, h2, h3, h4⟩ := run_append_own (P := P) wr a.heap.size t o.type e i z size bytes ht hi hz hsize hby hzs hsz v n xs hown.own ⟨g, 0, none⟩ m c us hl (fun j u hu => by
    have e0 : (⟨g, 0, none⟩ : Addr).add j = ⟨g, j, none⟩ := by unfold Addr.add; simp; omega
    rw [e0]; exact hus j u hu) h1 h63 hbytes O.size
  unfold Oper.wp execOp
  simp only [ho, resolve, invoke, builtin, Sem.run_bind, Sem.run_pure, Result.andThen_ok, List.map_toArray, List.map_cons, List.map_nil, hs, hx, hr]
  exact h v' w' ⟨h2, fun h0 => hown.nn (h4.1 h0).1⟩ (O.grown h3 (own_base hown.own)) (fun g t' cs b hg => b.grown h3 (Ne.symm hg))
theorem fcells_one (L : List Fi) : ∀ u ∈ fcells L, u.oneCell' = true := by
  intro u hu
  unfold fcells at hu
  obtain ⟨f, _, hf⟩ := List.mem_flatMap.1 hu
  unfold fcell at hf
  simp at hf
  rcases hf with rfl | rfl | rfl | rfl | rfl | rfl | rfl | rfl <;> rfl
set_option maxRecDepth 100000 in
set_option maxHeartbeats 1000000 in
theorem sclash_calls (g cap : Nat) (L : List Fi) (nm : ByteArray) (w : World) (hF : FiAt w g 0 L) (hm : L.length ≤ 6) (hz : ∀ f, f ∈ L → f.nm.size ≤ 1000) (hn : nm.size ≤ 1000) :
    Calls Tryz.prog 127 #[.slice (some ⟨g, 0, none⟩) L.length cap, .string nm] w (fun e w' => ∃ b : Bool, e = .returned (.bool b) ∧ On w w') := by
  have HU := Lib.hid (fun a b h1 h2 w => sunder_calls a b h1 h2 w)
  generalize hl : L.length = n at *
  go_enter Tryz.func127, Tryz.ntmps127
  go_wp2_with fail
  go_loopw [5] (fun x wr => ∃ k : Nat, x = .int .i64 k ∧ k ≤ n ∧ wr = w) (fun x _ => n - (intOf x).toNat)
  case atStart => exact ⟨0, rfl, by omega, rfl⟩
  case round =>
    obtain ⟨k, rfl, hk, rfl⟩ := hrel
    by_cases hlt : k < n
    · have hkl : k < L.length := by omega
      obtain ⟨c0, _, _, _, _, _, _, _⟩ := hF.cells hkl
      have hu := hz L[k] (List.getElem_mem hkl)
      simp only [Nat.zero_add] at c0
      generalize L[k].nm = u at *
      by_cases h1 : u.toList = nm.toList
      · go_wp2_with fail
        go_ret
        exact ⟨_, rfl, On.refl _⟩
      · have h1' : (u.toList == nm.toList) = false := beq_eq_false_iff_ne.2 h1
        have HU1 := Lib.hid (HU.out u nm (by omega) (by omega) wr)
        have HU2 := Lib.hid (HU.out nm u (by omega) (by omega) wr)
        clear h1
        go_wp2_with fail
        refine HU1.out.mono ?_
        rintro e w1 ⟨rfl, hw⟩
        rw [hw]
        clear hw
        cases hb1 : under u.data.toList nm.data.toList
        · go_wp2_with fail
          refine HU2.out.mono ?_
          rintro e w1 ⟨rfl, hw⟩
          rw [hw]
          clear hw
          cases hb2 : under nm.data.toList u.data.toList
          · go_wp2_with fail
            exact ⟨⟨k + 1, by go_num, by omega, trivial⟩, by simp [intOf]; omega⟩
          · go_wp2_with fail
            go_ret
            exact ⟨_, rfl, On.refl _⟩
        · go_wp2_with fail
          go_ret
          exact ⟨_, rfl, On.refl _⟩
    · obtain rfl : k = n := by omega
      go_wp2_with fail
      go_ret
      exact ⟨_, rfl, On.refl _⟩
/-- What l8Add answers. -/
structure AddOut (B : Nat) (w : World) (L : List Fi) (f : Fi) (e : Ending) (w' : World) : Prop where mk :: (out : ∃ (v : Value) (n : Nat) (L' : List Fi) (c : Int), e = .returned (.tuple #[v, .int .i64 c]) ∧ On w w' ∧ Own B w' 42 8 v n (fcells L') ∧ L'.length = n ∧ (L' = L ∨ (L' = L ++ [f] ∧ enOk f = true ∧ L.length < 6)))
set_option maxRecDepth 100000 in
set_option maxHeartbeats 4000000 in
theorem sl8add_calls (B : Nat) (v : Value) (L : List Fi) (nm : ByteArray) (y m d h mi s : Int) (tx : ByteArray) (w : World) (hB : B ≤ w.heap.size) (n : Nat) (hL : L.length = n) (hown : Own B w 42 8 v n (fcells L)) (h6 : n ≤ 6) (hz : ∀ f, f ∈ L → f.nm.size ≤ 1000) (hn : nm.size ≤ 1000) (ht : tx.size ≤ 1000) :
    Calls Tryz.prog 95 #[v, .agg #[.string nm, .int .i64 y, .int .i64 m, .int .i64 d, .int .i64 h, .int .i64 mi, .int .i64 s, .string tx]] w (AddOut B w L ⟨nm, y, m, d, h, mi, s, tx⟩) := by
  obtain ⟨g, cap, rfl, hg, hrow, hnc, hcm, hlen⟩ := hown.parts
  have HS := Lib.hid (fun w => sentry_calls nm y m d h mi s tx w (by omega) (by unfold maxLen; omega))
  have HCL := Lib.hid (fun w (hF : FiAt w g 0 L) => sclash_calls g cap L nm w hF (by omega) hz hn)
  rw [hL] at HCL
  have OA := (On.refl w).alloc (.cells #[.string nm, .int .i64 y, .int .i64 m, .int .i64 d, .int .i64 h, .int .i64 mi, .int .i64 s, .string tx] 42)
  have BA := Blk.new w 42 #[.string nm, .int .i64 y, .int .i64 m, .int .i64 d, .int .i64 h, .int .i64 mi, .int .i64 s, .string tx]
  have HF := Lib.hid (fun W (O : On w W) => (FiAt.row hrow).on O)
  obtain ⟨i0, hi, hz0, hz1, hz2⟩ := info_parts2 entinfo
  have HK := Lib.hid (show enOk ⟨nm, y, m, d, h, mi, s, tx⟩ = entryOk nm y m d h mi s tx from rfl)
  go_enter Tryz.func95, Tryz.ntmps95
  go_upto_region 1 with fail
  generalize hP : w.heap.size = p at *
  generalize w.alloc (.cells #[.string nm, .int .i64 y, .int .i64 m, .int .i64 d, .int .i64 h, .int .i64 mi, .int .i64 s, .string tx] 42) = wz at *
  have HCS := Lib.hid (fun W (O1 : On wz W) => (show W.cell? ⟨p, 0, none⟩ = some (.string nm) ∧ W.cell? ⟨p, 1, none⟩ = some (.int .i64 y) ∧ W.cell? ⟨p, 2, none⟩ = some (.int .i64 m) ∧ W.cell? ⟨p, 3, none⟩ = some (.int .i64 d) ∧ W.cell? ⟨p, 4, none⟩ = some (.int .i64 h) ∧ W.cell? ⟨p, 5, none⟩ = some (.int .i64 mi) ∧ W.cell? ⟨p, 6, none⟩ = some (.int .i64 s) ∧ W.cell? ⟨p, 7, none⟩ = some (.string tx) from
    let b := O1.blk BA
    ⟨(b.cell 0).trans rfl, (b.cell 1).trans rfl, (b.cell 2).trans rfl, (b.cell 3).trans rfl, (b.cell 4).trans rfl, (b.cell 5).trans rfl, (b.cell 6).trans rfl, (b.cell 7).trans rfl⟩))
  obtain ⟨x0, x1, x2, x3, x4, x5, x6, x7⟩ := HCS.out wz (On.refl _)
  go_wp2_with fail
  refine (HS.out wz).mono ?_
  rintro e w1 ⟨rfl, O1⟩
  have Ot := OA.call O1
  clear x0 x1 x2 x3 x4 x5 x6 x7
  obtain ⟨x0, x1, x2, x3, x4, x5, x6, x7⟩ := HCS.out w1 O1
  cases hk : entryOk nm y m d h mi s tx with
  | false =>
    go_wp2_with fail
    go_ret2
    exact ⟨_, n, L, _, rfl, Ot, hown.on Ot, hL, .inl rfl⟩
  | true =>
    rw [hk] at HK
    go_wp2_with fail
    refine (HCL.out w1 (HF.out w1 Ot)).mono ?_
    rintro e w2 ⟨b, rfl, O2⟩
    have Ot2 := Ot.call O2
    have O12 := O1.call O2
    clear x0 x1 x2 x3 x4 x5 x6 x7
    cases b with
    | true =>
      go_wp2_with fail
      go_ret2
      exact ⟨_, n, L, _, rfl, Ot2, hown.on Ot2, hL, .inl rfl⟩
    | false =>
      by_cases hf : 6 ≤ n
      · have hf' : (6 : Int) ≤ (n : Int) := by omega
        go_wp2_with fail
        go_ret2
        exact ⟨_, n, L, _, rfl, Ot2, hown.on Ot2, hL, .inl rfl⟩
      · have hf' : ¬ (6 : Int) ≤ (n : Int) := by omega
        have HROW := Lib.hid (fun W (O : On w2 W) => (show ∀ j u, (fcells L)[j]? = some u → W.cell? ⟨g, j, none⟩ = some u from fun j u hu => by
          have h := ((FiAt.row hrow).on (Ot2.call O)).out j u hu
          rwa [Nat.zero_add] at h))
        have hfl : (fcells L).length = n * 8 := by rw [fcells_length, hL]
        have FIN := Lib.hid (fun W v' (O : On w2 W) (hw : Own w2.heap.size W 42 8 v' (n + 1) (fcells L ++ [.string nm, .int .i64 y, .int .i64 m, .int .i64 d, .int .i64 h, .int .i64 mi, .int .i64 s, .string tx])) => (show AddOut B w L ⟨nm, y, m, d, h, mi, s, tx⟩ (.returned (.tuple #[v', .int .i64 0])) W from
          ⟨v', n + 1, L ++ [⟨nm, y, m, d, h, mi, s, tx⟩], 0, rfl, Ot2.call O, by rw [fcells_append]; exact hw.low (by have := Ot2.size; omega), by rw [List.length_append, hL]; rfl, .inr ⟨rfl, HK.out, by omega⟩⟩))
        have HCE := Lib.hid (fun W (O : On w2 W) => HCS.out W (O12.call O))
        clear HCS HF HCL HS HK hown hrow
        go_upto_region 7 with fail
        refine wp_region_held_drew (S := fun W => On w2 W) (by kernel_rfl) (On.refl _).drew (fun hHeld => ?_)
        refine Tk.tk 1 ?_ rfl (.inl ⟨by rfl, ?_⟩) ?_
        rotate_left
        · intro w hSw; go_simp; first | done | with_reducible rfl
        try simp (maxSteps := 2000000) only [Act.put, Tk.s6]
        refine Tk.tk 3 ?_ rfl (.inl ⟨by rfl, ?_⟩) ?_
        rotate_left
        · intro w hSw; obtain ⟨q0, q1, q2, q3, q4, q5, q6, q7⟩ := HCE.out w hSw; go_simp; first | done | with_reducible rfl
        try simp (maxSteps := 2000000) only [Act.put, Tk.s6]
        have O0 := (On.refl w2).drew
        generalize w2.drew = wd at *
        refine wpAnyH_ready (rs := [0, 4]) (by kernel_rfl) (by simp) ?_
        refine AllReadyH.cons (o := _) rfl (fun K hK => ?_) (AllReadyH.cons (o := _) rfl (fun K hK => ?_) AllReadyH.nil)
        · skip
          go_simp
          have O0n := O0.alloc (.cells #[] 42)
          have hltwa : wd.heap.size < (wd.alloc (.cells #[] 42)).heap.size := by simp
          have hownE := Own.new (base := w2.heap.size) wd 42 8 #[] 0 (Nat.zero_le _) rfl O0.size
          skip
          refine hK.out _ _ O0n (fun hHeld => ?_)
          clear hK K
          try simp (maxSteps := 2000000) only [Act.put, Tk.s6]
          generalize wd.alloc (.cells #[] 42) = wa at *
          generalize wd.heap.size = gewa at *
          refine wpAnyH_ready (rs := [2, 4]) (by kernel_rfl) (by simp) ?_
          refine AllReadyH.cons (o := _) rfl (fun K hK => ?_) (AllReadyH.cons (o := _) rfl (fun K hK => ?_) AllReadyH.nil)
          · skip
            rw [if_pos (by rfl)]
            refine opwp_app (Operand.tmp 22) (Operand.tmp 23) 22 rfl w2 i0 (.agg #[.string ByteArray.empty, .int .i64 0, .int .i64 0, .int .i64 0, .int .i64 0, .int .i64 0, .int .i64 0, .string ByteArray.empty]) 80 8 Tryz.underlying22 hi hz0 hz1 hz2 rfl (by decide) _ 0 [] rfl hownE O0n g n cap (fcells L) rfl hfl (HROW.out wa O0n) (fcells_one L) (by unfold maxLen; omega) (by omega) ?_
            intro v2 w4 hown2 O4 hk4
            rw [List.nil_append, Nat.zero_add] at hown2
            refine hK.out _ _ O4 (fun hHeld => ?_)
            clear hK K
            try simp (maxSteps := 2000000) only [Act.put, Tk.s6]
            refine Tk.rd 4 rfl fun K hK => ?_
            go_simp
            have O4m := O4.alloc (.cells #[.string nm, .int .i64 y, .int .i64 m, .int .i64 d, .int .i64 h, .int .i64 mi, .int .i64 s, .string tx] 42)
            have hltwb : w4.heap.size < (w4.alloc (.cells #[.string nm, .int .i64 y, .int .i64 m, .int .i64 d, .int .i64 h, .int .i64 mi, .int .i64 s, .string tx] 42)).heap.size := by simp
            replace hown2 := hown2.on ((On.refl w4).alloc (.cells #[.string nm, .int .i64 y, .int .i64 m, .int .i64 d, .int .i64 h, .int .i64 mi, .int .i64 s, .string tx] 42))
            have BE := Blk.new w4 42 #[.string nm, .int .i64 y, .int .i64 m, .int .i64 d, .int .i64 h, .int .i64 mi, .int .i64 s, .string tx]
            refine hK.out _ _ O4m (fun hHeld => ?_)
            clear hK K
            try simp (maxSteps := 2000000) only [Act.put, Tk.s6]
            generalize w4.alloc (.cells #[.string nm, .int .i64 y, .int .i64 m, .int .i64 d, .int .i64 h, .int .i64 mi, .int .i64 s, .string tx] 42) = wb at *
            generalize w4.heap.size = bewb at *
            refine Tk.rd 5 rfl fun K hK => ?_
            rw [if_pos (by rfl)]
            refine opwp_app (Operand.tmp 24) (Operand.tmp 26) 22 rfl w2 i0 (.agg #[.string ByteArray.empty, .int .i64 0, .int .i64 0, .int .i64 0, .int .i64 0, .int .i64 0, .int .i64 0, .string ByteArray.empty]) 80 8 Tryz.underlying22 hi hz0 hz1 hz2 rfl (by decide) v2 n (fcells L) rfl hown2 O4m bewb 1 1 [.string nm, .int .i64 y, .int .i64 m, .int .i64 d, .int .i64 h, .int .i64 mi, .int .i64 s, .string tx] rfl rfl (fun j u hu => by rw [BE.cell j]; simpa using hu) (by intro u hu; simp at hu; rcases hu with rfl | rfl | rfl | rfl | rfl | rfl | rfl | rfl <;> rfl) (by unfold maxLen; omega) (by omega) ?_
            intro v5 w5 hown5 O5 hk5
            refine hK.out _ _ O5 (fun hHeld => ?_)
            clear hK K
            try simp (maxSteps := 2000000) only [Act.put, Tk.s6]
            refine Tk.rd 6 rfl fun K hK => ?_
            go_simp
            refine hK.out _ _ O5 (fun hHeld => ?_)
            clear hK K
            try simp (maxSteps := 2000000) only [Act.put, Tk.s6]
            refine Tk.rd 7 rfl fun K hK => ?_
            go_simp
            refine hK.out _ _ O5 (fun hHeld => ?_)
            clear hK K
            try simp (maxSteps := 2000000) only [Act.put, Tk.s6]
            refine wpAnyH_done (by kernel_rfl) ?_ _
            go_wp2_with fail
            go_ret2
            exact FIN.out w5 v5 O5 hown5
          · skip
            go_simp
            have O0nm := O0n.alloc (.cells #[.string nm, .int .i64 y, .int .i64 m, .int .i64 d, .int .i64 h, .int .i64 mi, .int .i64 s, .string tx] 42)
            have hltwb : wa.heap.size < (wa.alloc (.cells #[.string nm, .int .i64 y, .int .i64 m, .int .i64 d, .int .i64 h, .int .i64 mi, .int .i64 s, .string tx] 42)).heap.size := by simp
            replace hownE := hownE.on ((On.refl wa).alloc (.cells #[.string nm, .int .i64 y, .int .i64 m, .int .i64 d, .int .i64 h, .int .i64 mi, .int .i64 s, .string tx] 42))
            have BE := Blk.new wa 42 #[.string nm, .int .i64 y, .int .i64 m, .int .i64 d, .int .i64 h, .int .i64 mi, .int .i64 s, .string tx]
            refine hK.out _ _ O0nm (fun hHeld => ?_)
            clear hK K
            try simp (maxSteps := 2000000) only [Act.put, Tk.s6]
            generalize wa.alloc (.cells #[.string nm, .int .i64 y, .int .i64 m, .int .i64 d, .int .i64 h, .int .i64 mi, .int .i64 s, .string tx] 42) = wb at *
            generalize wa.heap.size = bewb at *
            refine Tk.rd 2 rfl fun K hK => ?_
            rw [if_pos (by rfl)]
            refine opwp_app (Operand.tmp 22) (Operand.tmp 23) 22 rfl w2 i0 (.agg #[.string ByteArray.empty, .int .i64 0, .int .i64 0, .int .i64 0, .int .i64 0, .int .i64 0, .int .i64 0, .string ByteArray.empty]) 80 8 Tryz.underlying22 hi hz0 hz1 hz2 rfl (by decide) _ 0 [] rfl hownE O0nm g n cap (fcells L) rfl hfl (HROW.out wb O0nm) (fcells_one L) (by unfold maxLen; omega) (by omega) ?_
            intro v2 w4 hown2 O4 hk4
            rw [List.nil_append, Nat.zero_add] at hown2
            refine hK.out _ _ O4 (fun hHeld => ?_)
            clear hK K
            try simp (maxSteps := 2000000) only [Act.put, Tk.s6]
            replace BE := hk4 _ _ _ BE (by intro e; have e2 : gewa = bewb := Option.some.inj e; omega)
            refine Tk.rd 5 rfl fun K hK => ?_
            rw [if_pos (by rfl)]
            refine opwp_app (Operand.tmp 24) (Operand.tmp 26) 22 rfl w2 i0 (.agg #[.string ByteArray.empty, .int .i64 0, .int .i64 0, .int .i64 0, .int .i64 0, .int .i64 0, .int .i64 0, .string ByteArray.empty]) 80 8 Tryz.underlying22 hi hz0 hz1 hz2 rfl (by decide) v2 n (fcells L) rfl hown2 O4 bewb 1 1 [.string nm, .int .i64 y, .int .i64 m, .int .i64 d, .int .i64 h, .int .i64 mi, .int .i64 s, .string tx] rfl rfl (fun j u hu => by rw [BE.cell j]; simpa using hu) (by intro u hu; simp at hu; rcases hu with rfl | rfl | rfl | rfl | rfl | rfl | rfl | rfl <;> rfl) (by unfold maxLen; omega) (by omega) ?_
            intro v5 w5 hown5 O5 hk5
            refine hK.out _ _ O5 (fun hHeld => ?_)
            clear hK K
            try simp (maxSteps := 2000000) only [Act.put, Tk.s6]
            refine Tk.rd 6 rfl fun K hK => ?_
            go_simp
            refine hK.out _ _ O5 (fun hHeld => ?_)
            clear hK K
            try simp (maxSteps := 2000000) only [Act.put, Tk.s6]
            refine Tk.rd 7 rfl fun K hK => ?_
            go_simp
            refine hK.out _ _ O5 (fun hHeld => ?_)
            clear hK K
            try simp (maxSteps := 2000000) only [Act.put, Tk.s6]
            refine wpAnyH_done (by kernel_rfl) ?_ _
            go_wp2_with fail
            go_ret2
            exact FIN.out w5 v5 O5 hown5
        · skip
          go_simp
          have O0m := O0.alloc (.cells #[.string nm, .int .i64 y, .int .i64 m, .int .i64 d, .int .i64 h, .int .i64 mi, .int .i64 s, .string tx] 42)
          have hltwb : wd.heap.size < (wd.alloc (.cells #[.string nm, .int .i64 y, .int .i64 m, .int .i64 d, .int .i64 h, .int .i64 mi, .int .i64 s, .string tx] 42)).heap.size := by simp
          skip
          have BE := Blk.new wd 42 #[.string nm, .int .i64 y, .int .i64 m, .int .i64 d, .int .i64 h, .int .i64 mi, .int .i64 s, .string tx]
          refine hK.out _ _ O0m (fun hHeld => ?_)
          clear hK K
          try simp (maxSteps := 2000000) only [Act.put, Tk.s6]
          generalize wd.alloc (.cells #[.string nm, .int .i64 y, .int .i64 m, .int .i64 d, .int .i64 h, .int .i64 mi, .int .i64 s, .string tx] 42) = wb at *
          generalize wd.heap.size = bewb at *
          refine Tk.rd 0 rfl fun K hK => ?_
          go_simp
          have O0mn := O0m.alloc (.cells #[] 42)
          have hltwa : wb.heap.size < (wb.alloc (.cells #[] 42)).heap.size := by simp
          have hownE := Own.new (base := w2.heap.size) wb 42 8 #[] 0 (Nat.zero_le _) rfl O0m.size
          replace BE := BE.alloc (.cells #[] 42)
          refine hK.out _ _ O0mn (fun hHeld => ?_)
          clear hK K
          try simp (maxSteps := 2000000) only [Act.put, Tk.s6]
          generalize wb.alloc (.cells #[] 42) = wa at *
          generalize wb.heap.size = gewa at *
          refine Tk.rd 2 rfl fun K hK => ?_
          rw [if_pos (by rfl)]
          refine opwp_app (Operand.tmp 22) (Operand.tmp 23) 22 rfl w2 i0 (.agg #[.string ByteArray.empty, .int .i64 0, .int .i64 0, .int .i64 0, .int .i64 0, .int .i64 0, .int .i64 0, .string ByteArray.empty]) 80 8 Tryz.underlying22 hi hz0 hz1 hz2 rfl (by decide) _ 0 [] rfl hownE O0mn g n cap (fcells L) rfl hfl (HROW.out wa O0mn) (fcells_one L) (by unfold maxLen; omega) (by omega) ?_
          intro v2 w4 hown2 O4 hk4
          rw [List.nil_append, Nat.zero_add] at hown2
          refine hK.out _ _ O4 (fun hHeld => ?_)
          clear hK K
          try simp (maxSteps := 2000000) only [Act.put, Tk.s6]
          replace BE := hk4 _ _ _ BE (by intro e; have e2 : gewa = bewb := Option.some.inj e; omega)
          refine Tk.rd 5 rfl fun K hK => ?_
          rw [if_pos (by rfl)]
          refine opwp_app (Operand.tmp 24) (Operand.tmp 26) 22 rfl w2 i0 (.agg #[.string ByteArray.empty, .int .i64 0, .int .i64 0, .int .i64 0, .int .i64 0, .int .i64 0, .int .i64 0, .string ByteArray.empty]) 80 8 Tryz.underlying22 hi hz0 hz1 hz2 rfl (by decide) v2 n (fcells L) rfl hown2 O4 bewb 1 1 [.string nm, .int .i64 y, .int .i64 m, .int .i64 d, .int .i64 h, .int .i64 mi, .int .i64 s, .string tx] rfl rfl (fun j u hu => by rw [BE.cell j]; simpa using hu) (by intro u hu; simp at hu; rcases hu with rfl | rfl | rfl | rfl | rfl | rfl | rfl | rfl <;> rfl) (by unfold maxLen; omega) (by omega) ?_
          intro v5 w5 hown5 O5 hk5
          refine hK.out _ _ O5 (fun hHeld => ?_)
          clear hK K
          try simp (maxSteps := 2000000) only [Act.put, Tk.s6]
          refine Tk.rd 6 rfl fun K hK => ?_
          go_simp
          refine hK.out _ _ O5 (fun hHeld => ?_)
          clear hK K
          try simp (maxSteps := 2000000) only [Act.put, Tk.s6]
          refine Tk.rd 7 rfl fun K hK => ?_
          go_simp
          refine hK.out _ _ O5 (fun hHeld => ?_)
          clear hK K
          try simp (maxSteps := 2000000) only [Act.put, Tk.s6]
          refine wpAnyH_done (by kernel_rfl) ?_ _
          go_wp2_with fail
          go_ret2
          exact FIN.out w5 v5 O5 hown5
end Go.Proofs.YtnadjlejlohgiaaGreatDoor.Lc

