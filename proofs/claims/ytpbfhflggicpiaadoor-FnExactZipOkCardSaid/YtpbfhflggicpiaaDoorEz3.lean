/- Files of a law as the program's own: a new row of cells. -/
import Derived.Test.YtpbfhflggicpiaaDoorEz2
import Derived.Test.YtpbfhflggicpiaaDoorDraw
import Derived.Deep.MidRow
namespace Go.Proofs.YtpbfhflggicpiaaDoor.Nm
open Go.RowKit Go.Proofs.YtpbfhflggicpiaaDoor.Mem
set_option linter.unusedVariables false
set_option linter.unusedSimpArgs false
theorem On.cells' {a : World} {b : Nat} (hb : a.heap.size ≤ b) : ∀ (vs : List Value) (o : Nat) (w : World), On a w → On a (w.setCells b o vs)
  | [], _, _, O => O
  | v :: r, o, w, O => On.cells' hb r (o + 1) _ (O.set hb v)
/-- The first files lie in a new block; what is behind may be written. -/
structure Pt (w : World) (p n : Nat) (L : List Fi) : Prop where
  fi : FiAt w p 0 L
  th : w.there p 0 (n * 8)
theorem Pt.on {w w' : World} {p n : Nat} {L : List Fi} (h : Pt w p n L) (O : On w w') : Pt w' p n L :=
  ⟨h.fi.on O, fun j hj => by
    obtain ⟨h1, h2⟩ := h.th j hj
    obtain ⟨u, hu⟩ := Option.isSome_iff_exists.1 h1
    have hb := World.block_lt_of_cell? w _ hu
    exact ⟨by rw [O.cell hb]; exact h1, by rw [O.frozen hb]; exact h2⟩⟩
theorem Pt.set {w : World} {p n : Nat} {L : List Fi} (h : Pt w p n L) (f : Fi) (hl : L.length < n) : Pt (w.setCells p (L.length * 8) (fcell f)) p n (L ++ [f]) := by
  have h8 : (fcell f).length = 8 := rfl
  refine ⟨⟨fun k u hu => ?_⟩, World.there_setCells h.th _ _ _⟩
  rw [fcells_append] at hu
  by_cases hk : k < L.length * 8
  · rw [List.getElem?_append_left (by rw [fcells_length]; exact hk)] at hu
    exact World.rangeAt_setCells_apart (b' := p) (o' := 0) (cs := fcells L) (fun j v hv => h.fi.out j v hv) _ _ _ (Or.inr (Or.inl (by rw [fcells_length]; omega))) k u hu
  · rw [List.getElem?_append_right (by rw [fcells_length]; omega), fcells_length] at hu
    have hu' : (fcell f)[k - L.length * 8]? = some u := by simpa [fcells] using hu
    have := World.rangeAt_setCells_same w p (L.length * 8) (fcell f) (fun j hj => by
      have := h.th (L.length * 8 + j) (by rw [h8] at hj; omega)
      rwa [Nat.zero_add] at this) _ _ hu'
    rwa [show L.length * 8 + (k - L.length * 8) = 0 + k from by omega] at this
theorem Pt.here {w : World} {p n k : Nat} {L : List Fi} (h : Pt w p n L) (hk : k < n) : w.there p (k * 8) 8 := fun j hj => by
  have := h.th (k * 8 + j) (by omega)
  rwa [Nat.zero_add] at this
theorem einfo : (Tryd.prog.info? 34).map (fun i => (i.zero.isSome, i.size, decide (i.bytes ≤ 1024))) = some (true, 8, true) := by kernel_rfl
theorem Pt.new (w : World) (t n : Nat) (z : Array Value) : Pt (w.alloc (.cells (madeCells z (n * 8)) t)) w.heap.size n [] :=
  ⟨⟨fun k u hu => by simp [fcells] at hu⟩, fun j hj => by
    have B := Blk.new w t (madeCells z (n * 8))
    refine ⟨?_, B.frozen _⟩
    rw [B.cell, Array.getElem?_eq_getElem (by rw [size_madeCells]; omega)]; rfl⟩
theorem make_entries (n : Nat) (hn : n ≤ 1048576) : ∃ z, ∀ W : World, (Instr.makeSlice 41 (.int .i64 (n : Int)) (.int .i64 (n : Int))).run Tryd.prog W = .ok (.slice (some ⟨W.heap.size, 0, none⟩) n n) (W.alloc (.cells (madeCells z (n * 8)) 34)) := by
  have he := einfo
  cases hi : Tryd.prog.info? 34 with
  | none => rw [hi] at he; simp at he
  | some i =>
    rw [hi] at he
    simp only [Option.map_some, Option.some.injEq, Prod.mk.injEq, decide_eq_true_eq] at he
    obtain ⟨z1, z2, z3⟩ := he
    obtain ⟨z, hz⟩ := Option.isSome_iff_exists.1 z1
    refine ⟨z.cells, fun W => ?_⟩
    have hb : (i.bytes : Int) * (n : Int) ≤ 281474976710656 := by
      have h : i.bytes * n ≤ 1024 * 1048576 := Nat.mul_le_mul z3 hn
      have h' : ((i.bytes * n : Nat) : Int) ≤ 281474976710656 := by omega
      rwa [Int.natCast_mul] at h'
    have hr := run_make (P := Tryd.prog) (w := W) 41 34 i z Tryd.underlying41 hi hz .i64 .i64 n n (by omega) (by omega) hb (by omega)
    simp only [Int.toNat_natCast, z2] at hr
    exact hr
set_option maxRecDepth 100000 in
set_option maxHeartbeats 1000000 in
theorem toentrys_calls (sp : Option Addr) (cap : Nat) (L : List Fi) (w : World) (hs : Fs w sp L) (hm : L.length ≤ 1048576) :
    Calls Tryd.prog 19 #[.slice sp L.length cap] w (fun e w' => ∃ sp', e = .returned (.slice sp' L.length L.length) ∧ On w w' ∧ Fs w' sp' L) := by
  generalize hn : L.length = n at *
  obtain ⟨z, hmk⟩ := make_entries n hm
  have P0 := Pt.new w 34 n z
  have O0 := (On.refl w).alloc (.cells (madeCells z (n * 8)) 34)
  generalize hw0 : w.alloc (.cells (madeCells z (n * 8)) 34) = w0 at *
  have hmk1 := hmk w
  rw [hw0] at hmk1
  clear hmk hw0
  go_enter Tryd.func19, Tryd.ntmps19
  go_wp2_with fail
  clear hmk1
  generalize hp : w.heap.size = p at *
  go_loopw [4] (fun x wr => ∃ k : Nat, x = .int .i64 k ∧ k ≤ n ∧ Pt wr p n (L.take k) ∧ On w wr) (fun x _ => n - (intOf x).toNat)
  case atStart => exact ⟨0, rfl, by omega, P0, O0⟩
  case round =>
    obtain ⟨k, rfl, hk, S, O⟩ := hrel
    by_cases hlt : k < n
    · rcases hs.out with hs0 | ⟨g, o, rfl, F⟩
      · rw [hs0] at hn; simp at hn; omega
      · have hkl : k < L.length := by omega
        have hlk : (L.take k).length = k := by rw [List.length_take]; omega
        obtain ⟨c0, c1, c2, c3, c4, c5, c6, c7⟩ := (F.on O).cells hkl
        have HC := Lib.hid (fun w => toentry_calls L[k].nm L[k].y L[k].m L[k].d L[k].h L[k].mi L[k].s L[k].tx w)
        have HF := Lib.hid (fun W (O1 : On wr W) => (S.on O1).set L[k] (by omega))
        rw [hlk, ← List.take_succ_eq_append_getElem hkl] at HF
        have HT := Lib.hid (fun W (O1 : On wr W) => (S.on O1).here hlt)
        have hfc : fcell L[k] = [.string L[k].nm, .int .i64 L[k].y, .int .i64 L[k].m, .int .i64 L[k].d, .int .i64 L[k].h, .int .i64 L[k].mi, .int .i64 L[k].s, .string L[k].tx] := rfl
        rw [hfc] at HF
        clear hfc
        unfold ent at HC
        generalize L[k].nm = nm at *
        generalize L[k].y = y at *
        generalize L[k].m = m at *
        generalize L[k].d = d at *
        generalize L[k].h = h at *
        generalize L[k].mi = mi at *
        generalize L[k].s = s at *
        generalize L[k].tx = tx at *
        go_wp2_with fail
        refine (HC.out wr).mono ?_
        rintro e w1 ⟨rfl, O1⟩
        clear c0 c1 c2 c3 c4 c5 c6 c7
        go_wp2_with ((with_reducible (show wpList _ _ _ (Oper.mk _ (Op.store _ _ _) _ _ _ _ :: _) _ _)); go_must (refine wpList_store_mid rfl _ _ _ rfl p (k * 8) #[.string nm, .int .i64 y, .int .i64 m, .int .i64 d, .int .i64 h, .int .i64 mi, .int .i64 s, .string tx] rfl rfl (HT.out w1 O1) (by kernel_rfl) (all_oneCell_toArray (by intro v hv; simp at hv; rcases hv with rfl | rfl | rfl | rfl | rfl | rfl | rfl | rfl <;> rfl)) ?_))
        have O2 := On.cells' (a := w) (b := p) (by omega) [.string nm, .int .i64 y, .int .i64 m, .int .i64 d, .int .i64 h, .int .i64 mi, .int .i64 s, .string tx] (k * 8) _ (O.call O1)
        have P2 := HF.out w1 O1
        generalize w1.setCells p (k * 8) [.string nm, .int .i64 y, .int .i64 m, .int .i64 d, .int .i64 h, .int .i64 mi, .int .i64 s, .string tx] = w2 at *
        go_wp2_with fail
        exact ⟨⟨k + 1, by go_num, by omega, P2, O2⟩, by simp [intOf]; omega⟩
    · obtain rfl : k = n := by omega
      rw [← hn, List.take_length] at S
      go_wp2_with fail
      go_ret
      exact ⟨_, rfl, O, ⟨Or.inr ⟨p, 0, rfl, S.fi⟩⟩⟩
end Go.Proofs.YtpbfhflggicpiaaDoor.Nm
