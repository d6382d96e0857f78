/- Own texts joined: LwSh. -/
import Derived.Deep.QuietTactic
import Derived.BigQuiet
import Derived.Test.YtnadjlejlohgiaaGreatDoorS23
import Derived.Test.YtnadjlejlohgiaaGreatDoorS42
import Derived.Test.YtnadjlejlohgiaaGreatDoorS43
import Derived.Test.YtnadjlejlohgiaaGreatDoorS44
/- The walk of FnLocalShort: at every input it returns true and keeps what was. The facts that it takes: the variable order as it is laid; the library's cell of a length holds some number. -/
namespace Go.Proofs.YtnadjlejlohgiaaGreatDoor.Lc
open Go.RowKit Go.Proofs.YtnadjlejlohgiaaGreatDoor.Mem Go.Proofs.YtnadjlejlohgiaaGreatDoor.Nm Go.Proofs.YtnadjlejlohgiaaGreatDoor.Wi Go.Proofs.YtnadjlejlohgiaaGreatDoor.Draw Go.Proofs.YtnadjlejlohgiaaGreatDoor.Nb Go.Proofs.YtnadjlejlohgiaaGreatDoor.Cr
set_option linter.unusedVariables false
set_option linter.unusedSimpArgs false
/-- What is looked at of a file that was written. -/
structure ShOk (R nm tx : ByteArray) : Prop where
  size : 30 + nm.size ≤ R.size
  big : R.size ≤ 10000000
  crc : numAtB R 14 4 = crcC (tx.data.toList.map UInt8.toNat)
  long : numAtB R 22 4 = tx.size
  name : R.extract 30 (30 + nm.size) = nm
theorem sh_ok {nm : ByteArray} {y m d h mi s : Int} {tx : ByteArray} (hk : entryOk nm y m d h mi s tx = true) : ShOk (lputB nm y m d h mi s tx) nm tx := by
  obtain ⟨h1, h2, h3⟩ := entryOk_parts hk
  have e : lputB nm y m d h mi s tx = localB nm y m d h mi s tx ++ ⟨#[]⟩ := by
    unfold lputB
    rw [if_pos hk]
    exact chars_ext (by rw [ch_append]; exact (List.append_nil _).symm)
  have hl := howOf_le tx
  have hz := localB_size nm y m d h mi s tx
  have hf := local_fields (nm := nm) (tx := tx) (y := y) (m := m) (d := d) (h := h) (mi := mi) (s := s) ⟨#[]⟩ h2 (by omega) (by omega)
  have hn := local_name (nm := nm) (tx := tx) (y := y) (m := m) (d := d) (h := h) (mi := mi) (s := s) ⟨#[]⟩
  rw [← e] at hf hn
  have hs : (lputB nm y m d h mi s tx).size = 30 + nm.size + (howOf tx).2.size := by
    rw [e, ByteArray.size_append, hz]; rfl
  exact ⟨by omega, by omega, hf.2.2.2.2.2.1, hf.2.2.2.2.2.2.2.1, hn⟩
theorem lput_no {nm : ByteArray} {y m d h mi s : Int} {tx : ByteArray} (hk : entryOk nm y m d h mi s tx = false) : lputB nm y m d h mi s tx = ⟨#[]⟩ := by
  unfold lputB
  rw [hk]; rfl
set_option maxRecDepth 100000 in
set_option maxHeartbeats 2000000 in
theorem law_short (a0 : Option Addr) (len0 cap0 : Nat) (z0 : List Int) (w : World) (hF : (∃ x, Ord w x) ∧ Fact w) (w0 : (a0 = none ∧ len0 = 0 ∧ cap0 = 0 ∧ z0 = []) ∨ ∃ x, a0 = some x ∧ len0 ≤ cap0 ∧ cap0 ≤ maxLen ∧ z0.length = cap0 ∧ (∀ i, i < z0.length → w.cell? (x.add i) = some (.int .u8 (z0.getD i 0))) ∧ ∀ n ∈ z0, (Lit.int .u8 n).wf = true) :
    Calls Tryz.prog 6 #[.slice a0 len0 cap0] w (Tells w (.bool true)) := by
  obtain ⟨⟨x, hO⟩, hf⟩ := hF
  by_cases hb : (1048576 : Int) < len0
  · go_enter Tryz.func6, Tryz.ntmps6
    go_wp2_with fail
    go_ret
    exact ⟨rfl, On.refl _⟩
  have hb' : (len0 : Int) ≤ 1048576 := by omega
  go_enter Tryz.func6, Tryz.ntmps6
  go_wp2_with fail
  refine (drawlocalput_calls a0 len0 cap0 z0 w w0).mono ?_
  rintro e w1 ⟨nm, y, m, d, h, mi, s, tx, rfl, hnm, htx, O1⟩
  unfold env
  have hsp := fun w => slput_calls nm y m d h mi s tx w (by omega) (by unfold maxLen; omega)
  have him := fun w1 O1 => ilput_calls nm y m d h mi s tx x w1 (hO.on O1) (hf.on hf.lt O1) (by omega) (by unfold maxLen; omega)
  unfold ent at hsp him
  have HSP := Lib.hid hsp
  have HIM := Lib.hid him
  have OA := (On.refl w1).alloc (.cells #[.string nm, .int .i64 y, .int .i64 m, .int .i64 d, .int .i64 h, .int .i64 mi, .int .i64 s, .string tx] 42)
  have BA := Blk.new w1 42 #[.string nm, .int .i64 y, .int .i64 m, .int .i64 d, .int .i64 h, .int .i64 mi, .int .i64 s, .string tx]
  have O2 := O1.call OA
  clear hsp him
  go_upto_region 4 with fail
  generalize hP : w1.heap.size = p at *
  generalize w1.alloc (.cells #[.string nm, .int .i64 y, .int .i64 m, .int .i64 d, .int .i64 h, .int .i64 mi, .int .i64 s, .string tx] 42) = w2 at *
  have x0 : w2.cell? ⟨p, 0, none⟩ = some (.string nm) := (BA.cell 0).trans rfl
  have x1 : w2.cell? ⟨p, 1, none⟩ = some (.int .i64 y) := (BA.cell 1).trans rfl
  have x2 : w2.cell? ⟨p, 2, none⟩ = some (.int .i64 m) := (BA.cell 2).trans rfl
  have x3 : w2.cell? ⟨p, 3, none⟩ = some (.int .i64 d) := (BA.cell 3).trans rfl
  have x4 : w2.cell? ⟨p, 4, none⟩ = some (.int .i64 h) := (BA.cell 4).trans rfl
  have x5 : w2.cell? ⟨p, 5, none⟩ = some (.int .i64 mi) := (BA.cell 5).trans rfl
  have x6 : w2.cell? ⟨p, 6, none⟩ = some (.int .i64 s) := (BA.cell 6).trans rfl
  have x7 : w2.cell? ⟨p, 7, none⟩ = some (.string tx) := (BA.cell 7).trans rfl
  cases hk : entryOk nm y m d h mi s tx with
  | false =>
    rw [lput_no hk] at HSP HIM
    go_wp2_with fail
    refine (HIM.out w2 O2).mono ?_
    rintro e w3 ⟨rfl, O3⟩
    have O3t := O2.call O3
    have B3 := O3.blk BA
    clear x0 x1 x2 x3 x4 x5 x6 x7
    have x0 : w3.cell? ⟨p, 0, none⟩ = some (.string nm) := (B3.cell 0).trans rfl
    have x1 : w3.cell? ⟨p, 1, none⟩ = some (.int .i64 y) := (B3.cell 1).trans rfl
    have x2 : w3.cell? ⟨p, 2, none⟩ = some (.int .i64 m) := (B3.cell 2).trans rfl
    have x3 : w3.cell? ⟨p, 3, none⟩ = some (.int .i64 d) := (B3.cell 3).trans rfl
    have x4 : w3.cell? ⟨p, 4, none⟩ = some (.int .i64 h) := (B3.cell 4).trans rfl
    have x5 : w3.cell? ⟨p, 5, none⟩ = some (.int .i64 mi) := (B3.cell 5).trans rfl
    have x6 : w3.cell? ⟨p, 6, none⟩ = some (.int .i64 s) := (B3.cell 6).trans rfl
    have x7 : w3.cell? ⟨p, 7, none⟩ = some (.string tx) := (B3.cell 7).trans rfl
    go_wp2_with fail
    refine (HSP.out w3).mono ?_
    rintro e w4 ⟨rfl, O4⟩
    have O4t := O3t.call O4
    have B4 := O4.blk B3
    clear x0 x1 x2 x3 x4 x5 x6 x7
    have x0 : w4.cell? ⟨p, 0, none⟩ = some (.string nm) := (B4.cell 0).trans rfl
    have x1 : w4.cell? ⟨p, 1, none⟩ = some (.int .i64 y) := (B4.cell 1).trans rfl
    have x2 : w4.cell? ⟨p, 2, none⟩ = some (.int .i64 m) := (B4.cell 2).trans rfl
    have x3 : w4.cell? ⟨p, 3, none⟩ = some (.int .i64 d) := (B4.cell 3).trans rfl
    have x4 : w4.cell? ⟨p, 4, none⟩ = some (.int .i64 h) := (B4.cell 4).trans rfl
    have x5 : w4.cell? ⟨p, 5, none⟩ = some (.int .i64 mi) := (B4.cell 5).trans rfl
    have x6 : w4.cell? ⟨p, 6, none⟩ = some (.int .i64 s) := (B4.cell 6).trans rfl
    have x7 : w4.cell? ⟨p, 7, none⟩ = some (.string tx) := (B4.cell 7).trans rfl
    go_wp2_with fail
    refine (HSP.out w4).mono ?_
    rintro e w5 ⟨rfl, O5⟩
    go_wp2_with fail
    go_ret
    exact ⟨rfl, O4t.call O5⟩
  | true =>
    have SH := sh_ok hk
    generalize lputB nm y m d h mi s tx = R at *
    have hR := SH.size
    have hRb := SH.big
    have hne : R.toList.isEmpty = false := by
      have hl : R.toList.length = R.size := by rw [ByteArray.toList_eq, Array.length_toList]; rfl
      cases hd : R.toList with
      | nil => rw [hd] at hl; simp at hl; omega
      | cons _ _ => rfl
    go_wp2_with fail
    refine (HIM.out w2 O2).mono ?_
    rintro e w3 ⟨rfl, O3⟩
    have O3t := O2.call O3
    have B3 := O3.blk BA
    clear x0 x1 x2 x3 x4 x5 x6 x7
    have x0 : w3.cell? ⟨p, 0, none⟩ = some (.string nm) := (B3.cell 0).trans rfl
    have x1 : w3.cell? ⟨p, 1, none⟩ = some (.int .i64 y) := (B3.cell 1).trans rfl
    have x2 : w3.cell? ⟨p, 2, none⟩ = some (.int .i64 m) := (B3.cell 2).trans rfl
    have x3 : w3.cell? ⟨p, 3, none⟩ = some (.int .i64 d) := (B3.cell 3).trans rfl
    have x4 : w3.cell? ⟨p, 4, none⟩ = some (.int .i64 h) := (B3.cell 4).trans rfl
    have x5 : w3.cell? ⟨p, 5, none⟩ = some (.int .i64 mi) := (B3.cell 5).trans rfl
    have x6 : w3.cell? ⟨p, 6, none⟩ = some (.int .i64 s) := (B3.cell 6).trans rfl
    have x7 : w3.cell? ⟨p, 7, none⟩ = some (.string tx) := (B3.cell 7).trans rfl
    go_wp2_with fail
    refine (HSP.out w3).mono ?_
    rintro e w4 ⟨rfl, O4⟩
    have O4t := O3t.call O4
    have B4 := O4.blk B3
    clear x0 x1 x2 x3 x4 x5 x6 x7
    have e1 := Lib.hid (at_end R 14 4)
    have e2 := Lib.hid (at_end R 22 4)
    have HCR := Lib.hid (show at_ R 14 0 4 = crcC (tx.data.toList.map UInt8.toNat) from SH.crc)
    have HLO := Lib.hid (show at_ R 22 0 4 = tx.size from SH.long)
    have HNM := Lib.hid SH.name
    clear SH hk HIM HSP
    go_wp2_with fail
    go_loopw [5, 6, 7] (fun u v x wr => ∃ k : Nat, x = .int .i64 ((k : Int) - 1) ∧ k ≤ 4 ∧ u = .int .i64 (at_ R 14 k 4 : Nat) ∧ v = .int .i64 (at_ R 22 k 4 : Nat) ∧ wr = w4) (fun _ _ x _ => (intOf x + 1).toNat)
    case atStart => exact ⟨4, rfl, Nat.le_refl _, by rw [e1.out]; rfl, by rw [e2.out]; rfl, rfl⟩
    case round =>
      obtain ⟨k, rfl, hk, rfl, rfl, rfl⟩ := hrel
      rcases k with _ | j
      · rw [HCR.out, HLO.out]
        have x0 : wr.cell? ⟨p, 0, none⟩ = some (.string nm) := (B4.cell 0).trans rfl
        have x7 : wr.cell? ⟨p, 7, none⟩ = some (.string tx) := (B4.cell 7).trans rfl
        have hC := fun w => icrc_calls tx (by omega) w
        have hcl := crcC_lt tx
        generalize crcC (tx.data.toList.map UInt8.toNat) = C at *
        have HC := Lib.hid hC
        clear hC
        have hn0 : (30 : Int) + nm.size ≤ R.size := by omega
        have hne2 : ((R.extract 30 (30 + nm.size)).toList == nm.toList) = true := by rw [HNM.out]; exact beq_self_eq_true _
        have e30 : IntKind.i64.wrap (30 + (nm.size : Int)) = 30 + (nm.size : Int) := by rw [IntKind.wrap_i64]; omega
        go_upto_region 14 with fail
        go_quiet (first | (go_at_call 25; exact Calls.quiet_of_same (HC.out _)))
        go_wp2_with fail
        go_ret
        exact ⟨rfl, O4t.call ((On.refl wr).drewN _)⟩
      · rw [show ((j + 1 : Nat) : Int) - 1 = (j : Int) from by omega]
        have HS := Lib.hid (at_step R (a := 14) (k := j) (n := 4) (by omega) (by omega))
        have HS2 := Lib.hid (at_step R (a := 22) (k := j) (n := 4) (by omega) (by omega))
        have hlt := at_lt R 14 (j + 1) 4 (by omega)
        have hlt2 := at_lt R 22 (j + 1) 4 (by omega)
        have hb : R[14 + j].toNat < 256 := R[14 + j].toNat_lt
        have hb2 : R[22 + j].toNat < 256 := R[22 + j].toNat_lt
        generalize at_ R 14 (j + 1) 4 = v at *
        generalize at_ R 22 (j + 1) 4 = v2 at *
        have hj : 14 + (j : Int) < R.size := by omega
        have hj2 : 22 + (j : Int) < R.size := by omega
        go_wp2_with fail
        exact ⟨⟨j, rfl, by omega, by rw [← HS.out, Int.natCast_add, Int.natCast_mul]; rfl, by rw [← HS2.out, Int.natCast_add, Int.natCast_mul]; rfl, trivial⟩, by simp [intOf]⟩
end Go.Proofs.YtnadjlejlohgiaaGreatDoor.Lc

