/- Own texts joined: Zc, Ez2, Draw, Ez3, Eq, Ez4, DrawT, Mk, Mk2, Mk3, LaidO, LaidQ. -/
import Derived.Test.YtnadjlejlohgiaaGreatDoorChecked
import Derived.Lib.Hide
import Derived.WalkKit
import Derived.WalkSpells
import Derived.Laws.BitsLemmas
import Derived.Deep.QuietTactic
import Derived.BigQuiet
import Derived.Deep.MidRow
import Derived.Deep.RegionHeld3
import Derived.Deep.DeepCutAuto
import Derived.Test.YtnadjlejlohgiaaGreatDoorRows
import Derived.Lay
import Derived.ChangeSlices
import Derived.ProofKit
import Derived.Deep.DeepHandedRow
import Derived.Test.YtnadjlejlohgiaaGreatDoorZ0
import Derived.Test.YtnadjlejlohgiaaGreatDoorZ1
import Derived.Test.YtnadjlejlohgiaaGreatDoorZ5
import Derived.Test.YtnadjlejlohgiaaGreatDoorZ13
import Derived.Test.YtnadjlejlohgiaaGreatDoorZ18
import Derived.Test.YtnadjlejlohgiaaGreatDoorZ20
import Derived.Test.YtnadjlejlohgiaaGreatDoorZ27
/- The list of heads at an archive's end, and the end: in plain words. Nothing is walked here. -/
namespace Go.Proofs.YtnadjlejlohgiaaGreatDoor.Lc
open Go.RowKit Go.Proofs.YtnadjlejlohgiaaGreatDoor.Mem Go.Proofs.YtnadjlejlohgiaaGreatDoor.Nm Go.Proofs.YtnadjlejlohgiaaGreatDoor.Nb Go.Proofs.YtnadjlejlohgiaaGreatDoor.Cr
set_option linter.unusedVariables false
set_option linter.unusedSimpArgs false
/-- The head of a file in the list. -/
def cHead (l : ByteArray) (p : Nat) : ByteArray := (((((⟨#[80, 75, 1, 2]⟩ ++ nB 2 20) ++ l.extract 4 30) ++ nB 10 0) ++ nB 4 p) ++ l.extract 30 (30 + numAtB l 26 2))
def atL (ls : List ByteArray) (k : Nat) : Nat := ((ls.take k).map ByteArray.size).sum
def hdsL (ls : List ByteArray) : Nat → ByteArray
  | 0 => ⟨#[]⟩
  | k + 1 => hdsL ls k ++ cHead (ls.getD k ⟨#[]⟩) (atL ls k)
def endB (n hl p : Nat) : ByteArray := ((((((⟨#[80, 75, 5, 6]⟩ ++ nB 4 0) ++ nB 2 n) ++ nB 2 n) ++ nB 4 hl) ++ nB 4 p) ++ nB 2 0)
/-- The list of heads, and the end. -/
def closB (ls : List ByteArray) : ByteArray := (((((((hdsL ls ls.length ++ ⟨#[80, 75, 5, 6]⟩) ++ nB 4 0) ++ nB 2 ls.length) ++ nB 2 ls.length) ++ nB 4 (hdsL ls ls.length).size) ++ nB 4 (atL ls ls.length)) ++ nB 2 0)
theorem closB_is (ls : List ByteArray) : closB ls = hdsL ls ls.length ++ endB ls.length (hdsL ls ls.length).size (atL ls ls.length) := by
  unfold closB endB
  simp only [ByteArray.append_assoc]
theorem endB_size (n hl p : Nat) : (endB n hl p).size = 22 := by
  unfold endB
  simp only [ByteArray.size_append, nB_size]
  rfl
/-- The head in the list at H is that of the file at p. -/
def fineB (s : ByteArray) (H p : Nat) : Prop :=
  H + 30 ≤ s.size ∧ H + (46 + numAtB s (H + 28) 2) ≤ s.size ∧ p + 30 + numAtB s (H + 28) 2 ≤ s.size ∧ s.extract (H + 6) (H + 32) = s.extract (p + 4) (p + 30) ∧ s.extract (H + 46) (H + (46 + numAtB s (H + 28) 2)) = s.extract (p + 30) (p + 30 + numAtB s (H + 28) 2) ∧
    s.extract H (H + 6) = nB 4 33639248 ++ nB 2 20 ∧ s.extract (H + 32) (H + 46) = nB 10 0 ++ nB 4 p
end Go.Proofs.YtnadjlejlohgiaaGreatDoor.Lc

/- Files of a law: how many bytes are left behind them. -/
namespace Go.Proofs.YtnadjlejlohgiaaGreatDoor.Nm
open Go.RowKit Go.Proofs.YtnadjlejlohgiaaGreatDoor.Mem
set_option linter.unusedVariables false
set_option linter.unusedSimpArgs false
/-- A slice of files: none, or their cells. -/
structure Fs (w : World) (sp : Option Addr) (L : List Fi) : Prop where mk :: (out : L = [] ∨ ∃ g o, sp = some ⟨g, o, none⟩ ∧ FiAt w g o L)
theorem Fs.on {w w' : World} {sp : Option Addr} {L : List Fi} (h : Fs w sp L) (O : On w w') : Fs w' sp L :=
  ⟨h.out.elim Or.inl fun ⟨g, o, a, b⟩ => Or.inr ⟨g, o, a, b.on O⟩⟩
/-- Texts that a machine can hold. -/
structure Szs (L : List Fi) (n : Nat) : Prop where mk :: (out : ∀ f, f ∈ L → f.nm.size ≤ n ∧ f.tx.size ≤ n)
end Go.Proofs.YtnadjlejlohgiaaGreatDoor.Nm

/- The draws' reader: each pick is some number below its bound; the reader's block alone changes. Conditions: the counts of picks are small. -/
namespace Go.Proofs.YtnadjlejlohgiaaGreatDoor.Draw
open Go.RowKit Go.Proofs.YtnadjlejlohgiaaGreatDoor.Mem
set_option linter.unusedVariables false
set_option linter.unusedSimpArgs false
theorem wr_i64 (n : Int) (h₀ : 0 ≤ n) (h₁ : n < 2 ^ 63) : IntKind.i64.wrap n = n := by rw [IntKind.wrap_i64]; omega
/-- Everything that was stays, but for block g. -/
structure But (g : Nat) (w w' : World) : Prop where mk :: (out : w.grownBy w' (some g))
theorem But.refl (g : Nat) (w : World) : But g w w := ⟨⟨rfl, rfl, rfl, Nat.le_refl _, fun _ _ _ => rfl⟩⟩
theorem But.trans {g : Nat} {a b c : World} (h : But g a b) (k : But g b c) : But g a c :=
  ⟨⟨k.out.os.trans h.out.os, k.out.tape.trans h.out.tape, k.out.output.trans h.out.output, Nat.le_trans h.out.size k.out.size, fun i hi hg => (k.out.block i (Nat.lt_of_lt_of_le hi h.out.size) hg).trans (h.out.block i hi hg)⟩⟩
theorem But.of {g : Nat} {a b : World} (h : On a b) : But g a b := ⟨⟨h.out.os, h.out.tape, h.out.output, h.out.size, fun i hi _ => h.out.block i hi⟩⟩
theorem But.set (g : Nat) (w : World) (i : Nat) (u : Value) : But g w (w.setCell ⟨g, i, none⟩ u) := by
  refine ⟨⟨rfl, rfl, rfl, ?_, fun j _ hj => Below.heap_setCell w ⟨g, i, none⟩ u j (fun e => hj (by rw [e]))⟩⟩
  simp [World.setCell]
theorem But.on {g : Nat} {a w w' : World} (h : But g w w') (O : On a w) (hg : a.heap.size ≤ g) : On a w' := O.grown h.out (fun _ e => by cases e; exact hg)
theorem But.blk {g k t : Nat} {w w' : World} {cs : Array Value} (h : But g w w') (b : Blk w k t cs) (hk : k ≠ g) : Blk w' k t cs := b.grown h.out (fun e => hk (by cases e; rfl))
theorem But.row {g k t : Nat} {w w' : World} {xs : List Value} (h : But g w w') (b : Row w k t xs) (hk : k ≠ g) : Row w' k t xs := by
  obtain ⟨cs, hb, ht⟩ := b.out
  exact ⟨cs, h.blk hb hk, ht⟩
theorem But.size {g : Nat} {w w' : World} (h : But g w w') : w.heap.size ≤ w'.heap.size := h.out.size
theorem But.cell {g : Nat} {w w' : World} (h : But g w w') {p : Addr} {v : Value} (hp : p.block ≠ g) (hc : w.cell? p = some v) : w'.cell? p = some v := by
  have hlt : p.block < w.heap.size := by
    rcases Nat.lt_or_ge p.block w.heap.size with hl | hl
    · exact hl
    · have h2 : w.heap[p.block]? = none := Array.getElem?_eq_none hl
      simp [World.cell?, h2] at hc
  rw [← hc]
  have hb := h.out.block p.block hlt (fun e => hp (by cases e; rfl))
  unfold World.cell?
  rw [hb]
/-- The reader at block g: at most B picks so far, its bytes lie elsewhere. -/
structure Rd (w : World) (g B : Nat) : Prop where mk :: (out : ∃ (p n cap : Nat) (A : Option Addr), Blk w g 83 #[.slice A n cap, .int .i64 p] ∧ p ≤ B ∧ n ≤ 2000 ∧ n ≤ cap ∧ cap ≤ maxLen ∧
  ∀ i, i < n → ∃ (x : Addr) (b : Nat), A = some x ∧ x.block < g ∧ b ≤ 255 ∧ w.cell? (x.add i) = some (.int .u8 b))
theorem Rd.lt {w : World} {g B : Nat} (h : Rd w g B) : g < w.heap.size := by
  obtain ⟨p, n, cap, A, hb, _⟩ := h.out
  exact hb.lt
theorem Rd.on {w w' : World} {g B : Nat} (h : Rd w g B) (O : On w w') : Rd w' g B := by
  obtain ⟨p, n, cap, A, hb, hp, hn, hc, hm, hcell⟩ := h.out
  refine ⟨p, n, cap, A, O.blk hb, hp, hn, hc, hm, fun i hi => ?_⟩
  obtain ⟨x, b, hx, hg, hb', hcl⟩ := hcell i hi
  have ha : (x.add i).block = x.block := by unfold Addr.add; split <;> rfl
  exact ⟨x, b, hx, hg, hb', (But.of (g := g) O).cell (by rw [ha]; exact Nat.ne_of_lt hg) hcl⟩
/-- Rows made behind the reader may change. -/
theorem Rd.grow {w w' : World} {g B : Nat} (h : Rd w g B) (hgl : g < w.heap.size) (hb : ∀ i, i ≤ g → w'.heap[i]? = w.heap[i]?) : Rd w' g B := by
  obtain ⟨p, n, cap, A, hb0, hp, hn, hc, hm, hcell⟩ := h.out
  refine ⟨p, n, cap, A, ⟨(hb g (Nat.le_refl _)).trans hb0.out⟩, hp, hn, hc, hm, fun i hi => ?_⟩
  obtain ⟨x, b, hx, hg, hb', hcl⟩ := hcell i hi
  have ha : (x.add i).block = x.block := by unfold Addr.add; split <;> rfl
  refine ⟨x, b, hx, hg, hb', ?_⟩
  rw [← hcl]
  unfold World.cell?
  rw [ha, hb x.block (Nat.le_of_lt hg)]
theorem Rd.le {w : World} {g B C : Nat} (h : Rd w g B) (hc : B ≤ C) : Rd w g C := by
  obtain ⟨p, n, cap, A, hb, hp, rest⟩ := h.out
  exact ⟨p, n, cap, A, hb, Nat.le_trans hp hc, rest⟩
end Go.Proofs.YtnadjlejlohgiaaGreatDoor.Draw

/- Files of a law as the program's own: a new row of cells. -/
namespace Go.Proofs.YtnadjlejlohgiaaGreatDoor.Nm
open Go.RowKit Go.Proofs.YtnadjlejlohgiaaGreatDoor.Mem
set_option linter.unusedVariables false
set_option linter.unusedSimpArgs false
/-- The first files lie in a new block; what is behind may be written. -/
structure Pt (w : World) (p n : Nat) (L : List Fi) : Prop where
  fi : FiAt w p 0 L
  th : w.there p 0 (n * 8)
theorem Pt.on {w w' : World} {p n : Nat} {L : List Fi} (h : Pt w p n L) (O : On w w') : Pt w' p n L :=
  ⟨h.fi.on O, fun j hj => by
    obtain ⟨h1, h2⟩ := h.th j hj
    obtain ⟨u, hu⟩ := Option.isSome_iff_exists.1 h1
    have hb := World.block_lt_of_cell? w _ hu
    exact ⟨by rw [O.cell hb]; exact h1, by rw [O.frozen hb]; exact h2⟩⟩
theorem Pt.set {w : World} {p n : Nat} {L : List Fi} (h : Pt w p n L) (f : Fi) (hl : L.length < n) : Pt (w.setCells p (L.length * 8) (fcell f)) p n (L ++ [f]) := by
  have h8 : (fcell f).length = 8 := rfl
  refine ⟨⟨fun k u hu => ?_⟩, World.there_setCells h.th _ _ _⟩
  rw [fcells_append] at hu
  by_cases hk : k < L.length * 8
  · rw [List.getElem?_append_left (by rw [fcells_length]; exact hk)] at hu
    exact World.rangeAt_setCells_apart (b' := p) (o' := 0) (cs := fcells L) (fun j v hv => h.fi.out j v hv) _ _ _ (Or.inr (Or.inl (by rw [fcells_length]; omega))) k u hu
  · rw [List.getElem?_append_right (by rw [fcells_length]; omega), fcells_length] at hu
    have hu' : (fcell f)[k - L.length * 8]? = some u := by simpa [fcells] using hu
    have := World.rangeAt_setCells_same w p (L.length * 8) (fcell f) (fun j hj => by
      have := h.th (L.length * 8 + j) (by rw [h8] at hj; omega)
      rwa [Nat.zero_add] at this) _ _ hu'
    rwa [show L.length * 8 + (k - L.length * 8) = 0 + k from by omega] at this
theorem Pt.here {w : World} {p n k : Nat} {L : List Fi} (h : Pt w p n L) (hk : k < n) : w.there p (k * 8) 8 := fun j hj => by
  have := h.th (k * 8 + j) (by omega)
  rwa [Nat.zero_add] at this
theorem Pt.new (w : World) (t n : Nat) (z : Array Value) : Pt (w.alloc (.cells (madeCells z (n * 8)) t)) w.heap.size n [] :=
  ⟨⟨fun k u hu => by simp [fcells] at hu⟩, fun j hj => by
    have B := Blk.new w t (madeCells z (n * 8))
    refine ⟨?_, B.frozen _⟩
    rw [B.cell, Array.getElem?_eq_getElem (by rw [size_madeCells]; omega)]; rfl⟩
end Go.Proofs.YtnadjlejlohgiaaGreatDoor.Nm

/- A file compared with itself. -/
namespace Go.Proofs.YtnadjlejlohgiaaGreatDoor.Nm
open Go.RowKit Go.Proofs.YtnadjlejlohgiaaGreatDoor.Mem
set_option linter.unusedVariables false
set_option linter.unusedSimpArgs false
set_option maxRecDepth 100000 in
set_option maxHeartbeats 1000000 in
theorem eqstamp_calls (y m d h mi s : Int) (w : World) :
    Calls Tryz.prog 65 #[.agg #[.int .i64 y, .int .i64 m, .int .i64 d, .int .i64 h, .int .i64 mi, .int .i64 s], .agg #[.int .i64 y, .int .i64 m, .int .i64 d, .int .i64 h, .int .i64 mi, .int .i64 s]] w (Tells w (.bool true)) := by
  have OA := ((On.refl w).alloc (.cells #[.int .i64 y, .int .i64 m, .int .i64 d, .int .i64 h, .int .i64 mi, .int .i64 s] 40)).alloc (.cells #[.int .i64 y, .int .i64 m, .int .i64 d, .int .i64 h, .int .i64 mi, .int .i64 s] 40)
  go_enter Tryz.func65, Tryz.ntmps65
  go_wp2_with fail
  go_ret
  exact ⟨rfl, OA⟩
set_option maxRecDepth 100000 in
set_option maxHeartbeats 1000000 in
theorem eqentry_calls (nm : ByteArray) (y m d h mi s : Int) (tx : ByteArray) (w : World) :
    Calls Tryz.prog 39 #[.agg #[.string nm, .int .i64 y, .int .i64 m, .int .i64 d, .int .i64 h, .int .i64 mi, .int .i64 s, .string tx], .agg #[.string nm, .int .i64 y, .int .i64 m, .int .i64 d, .int .i64 h, .int .i64 mi, .int .i64 s, .string tx]] w (Tells w (.bool true)) := by
  have OA := ((On.refl w).alloc (.cells #[.string nm, .int .i64 y, .int .i64 m, .int .i64 d, .int .i64 h, .int .i64 mi, .int .i64 s, .string tx] 42)).alloc (.cells #[.string nm, .int .i64 y, .int .i64 m, .int .i64 d, .int .i64 h, .int .i64 mi, .int .i64 s, .string tx] 42)
  have BA := (Blk.new w 42 #[.string nm, .int .i64 y, .int .i64 m, .int .i64 d, .int .i64 h, .int .i64 mi, .int .i64 s, .string tx]).alloc (.cells #[.string nm, .int .i64 y, .int .i64 m, .int .i64 d, .int .i64 h, .int .i64 mi, .int .i64 s, .string tx] 42)
  have BB := Blk.new (w.alloc (.cells #[.string nm, .int .i64 y, .int .i64 m, .int .i64 d, .int .i64 h, .int .i64 mi, .int .i64 s, .string tx] 42)) 42 #[.string nm, .int .i64 y, .int .i64 m, .int .i64 d, .int .i64 h, .int .i64 mi, .int .i64 s, .string tx]
  have Z1 : (w.alloc (.cells #[.string nm, .int .i64 y, .int .i64 m, .int .i64 d, .int .i64 h, .int .i64 mi, .int .i64 s, .string tx] 42)).heap.size = w.heap.size + 1 := Array.size_push _
  rw [Z1] at BB
  have HE := Lib.hid (fun w => eqstamp_calls y m d h mi s w)
  go_enter Tryz.func39, Tryz.ntmps39
  go_wp2_with fail
  clear Z1
  generalize hP : w.heap.size = p at *
  generalize (w.alloc (.cells #[.string nm, .int .i64 y, .int .i64 m, .int .i64 d, .int .i64 h, .int .i64 mi, .int .i64 s, .string tx] 42)).alloc (.cells #[.string nm, .int .i64 y, .int .i64 m, .int .i64 d, .int .i64 h, .int .i64 mi, .int .i64 s, .string tx] 42) = wb at *
  refine (HE.out wb).mono ?_
  rintro e w1 ⟨rfl, O1⟩
  have B1 := BA.call O1.out
  have B2 := BB.call O1.out
  have c1 : w1.cell? ⟨p, 7, none⟩ = some (.string tx) := (B1.cell 7).trans rfl
  have c2 : w1.cell? ⟨p + 1, 7, none⟩ = some (.string tx) := (B2.cell 7).trans rfl
  go_wp2_with fail
  go_ret
  exact ⟨rfl, OA.call O1⟩
end Go.Proofs.YtnadjlejlohgiaaGreatDoor.Nm

/- Two files that are one: what looks at them tells it. -/
namespace Go.Proofs.YtnadjlejlohgiaaGreatDoor.Nm
open Go.RowKit Go.Proofs.YtnadjlejlohgiaaGreatDoor.Mem
set_option linter.unusedVariables false
set_option linter.unusedSimpArgs false
set_option maxRecDepth 100000 in
set_option maxHeartbeats 1000000 in
theorem eqentrys_calls (sp sp' : Option Addr) (cap cap' : Nat) (L : List Fi) (w : World) (hs : Fs w sp L) (hs' : Fs w sp' L) (hm : L.length ≤ 1048576) :
    Calls Tryz.prog 11 #[.slice sp L.length cap, .slice sp' L.length cap'] w (Tells w (.bool true)) := by
  generalize hn : L.length = n at *
  go_enter Tryz.func11, Tryz.ntmps11
  go_wp2_with fail
  go_loopw [5] (fun x wr => ∃ k : Nat, x = .int .i64 k ∧ k ≤ n ∧ On w wr) (fun x _ => n - (intOf x).toNat)
  case atStart => exact ⟨0, rfl, by omega, On.refl w⟩
  case round =>
    obtain ⟨k, rfl, hk, O⟩ := hrel
    by_cases hlt : k < n
    · rcases hs.out with hs0 | ⟨g, o, rfl, F⟩
      · rw [hs0] at hn; simp at hn; omega
      · rcases hs'.out with hs0 | ⟨g', o', rfl, F'⟩
        · rw [hs0] at hn; simp at hn; omega
        have hkl : k < L.length := by omega
        have HF1 := Lib.hid (fun W (O1 : On wr W) => ((F.on O).on O1).cells hkl)
        have HF2 := Lib.hid (fun W (O1 : On wr W) => ((F'.on O).on O1).cells hkl)
        have HC := Lib.hid (fun w => eqentry_calls L[k].nm L[k].y L[k].m L[k].d L[k].h L[k].mi L[k].s L[k].tx w)
        generalize L[k].nm = nm at *
        generalize L[k].y = y at *
        generalize L[k].m = m at *
        generalize L[k].d = d at *
        generalize L[k].h = h at *
        generalize L[k].mi = mi at *
        generalize L[k].s = s at *
        generalize L[k].tx = tx at *
        go_wp2_with fail
        refine wp_region_held_drew (S := fun W => On wr W) (by kernel_rfl) (On.refl _).drew (fun hHeld => ?_)
        refine wpAnyH_take (i := 0) (oi := _) (v := ?_) rfl (by kernel_rfl) (by kernel_rfl) (by kernel_rfl) (fun _ _ _ h => h) (Or.inl ⟨by rfl, ?_⟩) (by assumption) ?_
        rotate_left
        · intro w hSw
          go_simp
          first | done | with_reducible rfl
        try simp only [Act.put, List.setIfInBounds_toArray, List.set_cons_zero, List.set_cons_succ]
        refine wpAnyH_take (i := 1) (oi := _) (v := ?_) rfl (by kernel_rfl) (by kernel_rfl) (by kernel_rfl) (fun _ _ _ h => h) (Or.inl ⟨by rfl, ?_⟩) (by assumption) ?_
        rotate_left
        · intro w hSw
          go_simp
          first | done | with_reducible rfl
        try simp only [Act.put, List.setIfInBounds_toArray, List.set_cons_zero, List.set_cons_succ]
        refine wpAnyH_take (i := 2) (oi := _) (v := ?_) rfl (by kernel_rfl) (by kernel_rfl) (by kernel_rfl) (fun _ _ _ h => h) (Or.inl ⟨by rfl, ?_⟩) (by assumption) ?_
        rotate_left
        · intro w hSw
          go_simp
          first | done | with_reducible rfl
        try simp only [Act.put, List.setIfInBounds_toArray, List.set_cons_zero, List.set_cons_succ]
        refine wpAnyH_take (i := 3) (oi := _) (v := ?_) rfl (by kernel_rfl) (by kernel_rfl) (by kernel_rfl) (fun _ _ _ h => h) (Or.inl ⟨by rfl, ?_⟩) (by assumption) ?_
        rotate_left
        · intro w hSw
          obtain ⟨q0, q1, q2, q3, q4, q5, q6, q7⟩ := HF1.out w hSw
          go_simp
          first | done | with_reducible rfl
        try simp only [Act.put, List.setIfInBounds_toArray, List.set_cons_zero, List.set_cons_succ]
        refine wpAnyH_take (i := 4) (oi := _) (v := ?_) rfl (by kernel_rfl) (by kernel_rfl) (by kernel_rfl) (fun _ _ _ h => h) (Or.inl ⟨by rfl, ?_⟩) (by assumption) ?_
        rotate_left
        · intro w hSw
          go_simp
          first | done | with_reducible rfl
        try simp only [Act.put, List.setIfInBounds_toArray, List.set_cons_zero, List.set_cons_succ]
        refine wpAnyH_take (i := 5) (oi := _) (v := ?_) rfl (by kernel_rfl) (by kernel_rfl) (by kernel_rfl) (fun _ _ _ h => h) (Or.inl ⟨by rfl, ?_⟩) (by assumption) ?_
        rotate_left
        · intro w hSw
          go_simp
          first | done | with_reducible rfl
        try simp only [Act.put, List.setIfInBounds_toArray, List.set_cons_zero, List.set_cons_succ]
        refine wpAnyH_take (i := 6) (oi := _) (v := ?_) rfl (by kernel_rfl) (by kernel_rfl) (by kernel_rfl) (fun _ _ _ h => h) (Or.inl ⟨by rfl, ?_⟩) (by assumption) ?_
        rotate_left
        · intro w hSw
          go_simp
          first | done | with_reducible rfl
        try simp only [Act.put, List.setIfInBounds_toArray, List.set_cons_zero, List.set_cons_succ]
        refine wpAnyH_take (i := 7) (oi := _) (v := ?_) rfl (by kernel_rfl) (by kernel_rfl) (by kernel_rfl) (fun _ _ _ h => h) (Or.inl ⟨by rfl, ?_⟩) (by assumption) ?_
        rotate_left
        · intro w hSw
          obtain ⟨q0, q1, q2, q3, q4, q5, q6, q7⟩ := HF2.out w hSw
          go_simp
          first | done | with_reducible rfl
        try simp only [Act.put, List.setIfInBounds_toArray, List.set_cons_zero, List.set_cons_succ]
        have OwD := (On.refl wr).drew
        generalize wr.drew = wD at *
        refine wpAnyH_ready (rs := [8]) (by kernel_rfl) (by simp) ?_
        refine AllReadyH.cons (o := _) rfl (fun K hK => ?_) AllReadyH.nil
        go_simp
        refine (HC.out wD).mono ?_
        rintro e w1 ⟨rfl, O1⟩
        have O2 := OwD.call O1
        refine hK.out _ _ O2 (fun hHeld => ?_)
        clear hK K
        try simp only [Act.put, List.setIfInBounds_toArray, List.set_cons_zero, List.set_cons_succ]
        refine wpAnyH_ready (rs := [9]) (by kernel_rfl) (by simp) ?_
        refine AllReadyH.cons (o := _) rfl (fun K hK => ?_) AllReadyH.nil
        go_simp
        refine hK.out _ _ O2 (fun hHeld => ?_)
        clear hK K
        try simp only [Act.put, List.setIfInBounds_toArray, List.set_cons_zero, List.set_cons_succ]
        refine wpAnyH_done (by kernel_rfl) ?_ _
        have O3 := O.call O2
        go_wp2_with fail
        exact ⟨⟨k + 1, by go_num, by omega, O3⟩, by simp [intOf]; omega⟩
    · obtain rfl : k = n := by omega
      go_wp2_with fail
      go_ret
      exact ⟨rfl, O⟩
end Go.Proofs.YtnadjlejlohgiaaGreatDoor.Nm

/- The draws of texts: some text, not a long one. -/
namespace Go.Proofs.YtnadjlejlohgiaaGreatDoor.Draw
open Go.RowKit Go.Proofs.YtnadjlejlohgiaaGreatDoor.Mem Go.Proofs.YtnadjlejlohgiaaGreatDoor.Wi
set_option linter.unusedVariables false
set_option linter.unusedSimpArgs false
theorem tmod_nat (a b : Nat) : Int.tmod (a : Int) (b : Int) = ((a % b : Nat) : Int) := by rw [Int.tmod_eq_emod_of_nonneg (by omega)]; simp
theorem tdiv_nat (a b : Nat) : Int.tdiv (a : Int) (b : Int) = ((a / b : Nat) : Int) := by rw [Int.tdiv_eq_ediv_of_nonneg (by omega)]; simp
theorem wr_u8 (n : Int) (h₀ : 0 ≤ n) (h₁ : n < 2 ^ 8) : IntKind.u8.wrap n = n := by
  have e : IntKind.u8.wrap n = n % 256 := rfl
  rw [e]; omega
theorem By.new (w : World) : By (w.alloc (.cells #[] 5)) w.heap.size 0 [] := by
  refine ⟨⟨?_, fun g hg => by simp [Value.ownBlock] at hg; exact hg.symm⟩⟩
  exact World.ownsRow_lit w (base := 0) (e := 5) (size := 1) #[] 0 (Nat.zero_le _) (by unfold maxLen; omega) (by simp)
theorem But.kp {g : Nat} {w w' : World} (h : But g w w') : Kp [g] w w' := ⟨h.out.os, h.out.tape, h.out.output, h.out.size, fun i hi hs => h.out.block i hi (fun e => hs (by cases e; simp))⟩
theorem Rd.kp {w w' : World} {g B : Nat} {S : List Nat} (h : Rd w g B) (k : Kp S w w') (hs : ∀ y ∈ S, g < y) : Rd w' g B :=
  h.grow h.lt (fun i hi => k.block i (Nat.lt_of_le_of_lt hi h.lt) (fun hm => by have := hs i hm; omega))
end Go.Proofs.YtnadjlejlohgiaaGreatDoor.Draw

/- The laws' own marks: texts and numbers that are written into a row and looked at again. -/
namespace Go.Proofs.YtnadjlejlohgiaaGreatDoor.Mk
open Go.RowKit Go.Proofs.YtnadjlejlohgiaaGreatDoor.Mem Go.Proofs.YtnadjlejlohgiaaGreatDoor.Nm Go.Proofs.YtnadjlejlohgiaaGreatDoor.Draw Go.Proofs.YtnadjlejlohgiaaGreatDoor.Wi
set_option linter.unusedVariables false
set_option linter.unusedSimpArgs false
theorem By1 (w : World) (v : Nat) : By (w.alloc (.cells #[.int .u8 (v : Int)] 5)) w.heap.size 1 [v] := by
  refine ⟨⟨?_, fun g hg => by simp [Value.ownBlock] at hg; exact hg.symm⟩⟩
  exact World.ownsRow_lit w (base := 0) (e := 5) (size := 1) #[.int .u8 (v : Int)] 1 (Nat.zero_le _) (by unfold maxLen; omega) (by simp)
/-- The digits of a number, ahead of a text. -/
def mkF : Nat → Nat → ByteArray → ByteArray
  | 0, _, o => o
  | f + 1, k, o => if k = 0 then o else mkF f (k / 10) (strB [48 + k % 10] ++ o)
def mkT (k : Nat) : ByteArray := (⟨#[109]⟩ : ByteArray) ++ mkF k k ⟨#[]⟩
theorem mkF_zero (f : Nat) (o : ByteArray) : mkF f 0 o = o := by cases f <;> rfl
theorem mkF_succ {f k : Nat} (o : ByteArray) (h : k ≠ 0) : mkF (f + 1) k o = mkF f (k / 10) (strB [48 + k % 10] ++ o) := if_neg h
set_option maxRecDepth 100000 in
theorem marktext_calls (k0 : Nat) (h1 : 1 ≤ k0) (h2 : k0 ≤ 1000) (w : World) : Calls Tryz.prog 40 #[.int .i64 k0] w (Tells w (.string (mkT k0))) := by
  unfold mkT
  obtain ⟨M, hM⟩ : ∃ M, mkF k0 k0 ⟨#[]⟩ = M := ⟨_, rfl⟩
  rw [hM]
  have HM := Lib.hid hM
  clear hM
  go_enter Tryz.func40, Tryz.ntmps40
  go_wp2_with fail
  go_loopw [0, 3] (fun kv ov wr => ∃ (f k : Nat) (o : ByteArray), kv = .int .i64 k ∧ ov = .string o ∧ k ≤ f ∧ o.size + f ≤ 1000 ∧ RowKit.Hid (mkF f k o = M) ∧ On w wr) (fun kv _ _ => (intOf kv).toNat)
  case atStart => exact ⟨k0, k0, ⟨#[]⟩, rfl, rfl, Nat.le_refl _, by show 0 + k0 ≤ 1000; omega, HM, On.refl _⟩
  case round =>
    obtain ⟨f, k, o, rfl, rfl, hkf, hz, HF, O⟩ := hrel
    by_cases h0 : k = 0
    · subst h0
      have e : o = M := by have := HF.out; rwa [mkF_zero] at this
      subst e
      go_wp2_with fail
      go_ret
      exact ⟨rfl, O⟩
    · obtain ⟨f, rfl⟩ : ∃ f', f = f' + 1 := ⟨f - 1, by omega⟩
      have hs := HF.out
      rw [mkF_succ o h0] at hs
      have HS := Lib.hid hs
      clear hs HF
      have BB := By1 wr (48 + k % 10)
      have OB := O.alloc (.cells #[.int .u8 ((48 + k % 10 : Nat) : Int)] 5)
      have cv := bytes_conv BB.out
      have hs1 : (strB [48 + k % 10]).size = 1 := by rw [strB_size]; rfl
      rw [show ((48 + k % 10 : Nat) : Int) = 48 + (k : Int) % 10 from by omega] at cv OB
      simp only [List.length_cons, List.length_nil, Nat.zero_add] at cv
      clear BB
      generalize strB [48 + k % 10] = d at *
      go_wp2_with fail
      exact ⟨⟨f, k / 10, d ++ o, by rw [show ((k / 10 : Nat) : Int) = (k : Int) / 10 from by omega], rfl, by omega, by rw [ByteArray.size_append, hs1]; omega, HS, OB⟩, by simp [intOf]; omega⟩
/-- A store into a block known whole. -/
theorem set_get {cs : Array Value} {i j : Nat} {v : Value} (hi : i < cs.size) : (cs.setIfInBounds i v)[j]? = if i = j then some v else cs[j]? := by
  rw [Array.getElem?_setIfInBounds]
  split
  · first | rfl | rw [if_pos hi]
  · rfl
/-- Marks of a row of texts. -/
structure MkS (w : World) (g t n i : Nat) : Prop where mk :: (out : ∃ cs, Blk w g t cs ∧ n ≤ cs.size ∧ ∀ j, j < i → cs[j]? = some (.string (mkT (1 + j))))
theorem MkS.on {w w' : World} {g t n i : Nat} (h : MkS w g t n i) (O : On w w') : MkS w' g t n i := by
  obtain ⟨cs, hb, h1, h2⟩ := h.out
  exact ⟨cs, O.blk hb, h1, h2⟩
theorem MkS.cell {w : World} {g t n i j : Nat} (h : MkS w g t n i) (hj : j < i) : w.cell? ⟨g, j, none⟩ = some (.string (mkT (1 + j))) := by
  obtain ⟨cs, hb, h1, h2⟩ := h.out
  rw [hb.cell j]; exact h2 j hj
theorem MkS.here {w : World} {g t n i j : Nat} (h : MkS w g t n i) (hj : j < n) : (∃ u, w.cell? ⟨g, j, none⟩ = some u) ∧ w.frozen? ⟨g, j, none⟩ = false := by
  obtain ⟨cs, hb, h1, h2⟩ := h.out
  exact ⟨⟨cs[j], by rw [hb.cell j, Array.getElem?_eq_getElem]⟩, hb.frozen j⟩
theorem MkS.set {w : World} {g t n i : Nat} (h : MkS w g t n i) (hi : i < n) : MkS (w.setCell ⟨g, i, none⟩ (.string (mkT (1 + i)))) g t n (i + 1) := by
  obtain ⟨cs, hb, h1, h2⟩ := h.out
  refine ⟨_, hb.set i _, by rw [Array.size_setIfInBounds]; exact h1, fun j hj => ?_⟩
  rw [set_get (by omega)]
  split
  · rename_i e; rw [e]
  · exact h2 j (by omega)
theorem MkS.of {w : World} {g t n : Nat} {xs : List Value} (h : Row w g t xs) (hx : xs.length = n) : MkS w g t n 0 := by
  obtain ⟨cs, hb, ht⟩ := h.out
  have h1 := congrArg List.length ht
  have h2 : cs.toList.length = cs.size := Array.length_toList
  rw [List.length_take] at h1
  exact ⟨cs, hb, by omega, fun j hj => by omega⟩
set_option maxRecDepth 100000 in
theorem markstrs_calls (g t cap n : Nat) (w : World) (hn : n ≤ 6) (h : MkS w g t n 0) :
    Calls Tryz.prog 27 #[.slice (some ⟨g, 0, none⟩) n cap, .int .i64 1] w (fun e w' => e = .returned (.int .i64 (1 + n : Nat)) ∧ But g w w' ∧ MkS w' g t n n) := by
  have HM := Lib.hid (fun k h1 h2 w => marktext_calls k h1 h2 w)
  go_enter Tryz.func27, Tryz.ntmps27
  go_wp2_with fail
  go_loopw [1, 5] (fun kv iv wr => ∃ i : Nat, i ≤ n ∧ kv = .int .i64 (1 + i : Nat) ∧ iv = .int .i64 i ∧ But g w wr ∧ MkS wr g t n i) (fun _ iv _ => n - (intOf iv).toNat)
  case atStart => exact ⟨0, by omega, rfl, rfl, But.refl _ _, h⟩
  case round =>
    obtain ⟨i, hi, rfl, rfl, T, S⟩ := hrel
    by_cases hlt : i < n
    · have HC := Lib.hid (HM.out (1 + i) (by omega) (by omega) wr)
      have HB := Lib.hid (fun w1 (O : On wr w1) => (S.on O).here hlt)
      have HS := Lib.hid (fun w1 (O : On wr w1) => (S.on O).set hlt)
      generalize mkT (1 + i) = m at *
      go_wp2_with fail
      refine HC.out.mono ?_
      rintro e w1 ⟨rfl, O1⟩
      obtain ⟨⟨u, hu⟩, hfr⟩ := HB.out w1 O1
      have S2 := HS.out w1 O1
      have T2 := (T.trans (But.of (g := g) O1)).trans (But.set g w1 i (.string m))
      go_wp2_with fail
      exact ⟨⟨i + 1, by omega, by go_num, by go_num, T2, S2⟩, by simp [intOf]; omega⟩
    · obtain rfl : i = n := by omega
      go_wp2_with fail
      go_ret
      exact ⟨rfl, T, S⟩
end Go.Proofs.YtnadjlejlohgiaaGreatDoor.Mk

/- The laws' own marks, looked at again: rows of texts. -/
namespace Go.Proofs.YtnadjlejlohgiaaGreatDoor.Mk
open Go.RowKit Go.Proofs.YtnadjlejlohgiaaGreatDoor.Mem Go.Proofs.YtnadjlejlohgiaaGreatDoor.Nm Go.Proofs.YtnadjlejlohgiaaGreatDoor.Draw Go.Proofs.YtnadjlejlohgiaaGreatDoor.Wi
set_option linter.unusedVariables false
set_option linter.unusedSimpArgs false
set_option maxRecDepth 100000 in
theorem heldstrs_calls (g t cap n : Nat) (w : World) (hn : n ≤ 6) (h : MkS w g t n n) :
    Calls Tryz.prog 28 #[.slice (some ⟨g, 0, none⟩) n cap, .int .i64 1] w (Tells w (.int .i64 (1 + n : Nat))) := by
  have HM := Lib.hid (fun k h1 h2 w => marktext_calls k h1 h2 w)
  go_enter Tryz.func28, Tryz.ntmps28
  go_wp2_with fail
  go_loopw [1, 5] (fun kv iv wr => ∃ i : Nat, i ≤ n ∧ kv = .int .i64 (1 + i : Nat) ∧ iv = .int .i64 i ∧ On w wr) (fun _ iv _ => n - (intOf iv).toNat)
  case atStart => exact ⟨0, by omega, rfl, rfl, On.refl _⟩
  case round =>
    obtain ⟨i, hi, rfl, rfl, O⟩ := hrel
    by_cases hlt : i < n
    · have HC := Lib.hid (fun w => HM.out (1 + i) (by omega) (by omega) w)
      have HB := Lib.hid (fun w1 (O1 : On wr w1) => ((h.on O).on O1).cell hlt)
      generalize mkT (1 + i) = m at *
      go_wp2_with fail
      refine wp_region_held_drew (S := fun W => On wr W) (by kernel_rfl) (On.refl _).drew (fun hHeld => ?_)
      refine wpAnyH_take (i := 0) (oi := _) (v := ?_) rfl (by kernel_rfl) (by kernel_rfl) (by kernel_rfl) (fun _ _ _ h => h) (Or.inl ⟨by rfl, ?_⟩) (by assumption) ?_
      rotate_left
      · intro w hSw
        go_simp
        first | done | with_reducible rfl
      try simp (maxSteps := 2000000) only [Act.put, List.setIfInBounds_toArray, List.set_cons_zero, List.set_cons_succ, List.getElem_toArray, List.getElem_cons_zero, List.getElem_cons_succ]
      refine wpAnyH_take (i := 1) (oi := _) (v := ?_) rfl (by kernel_rfl) (by kernel_rfl) (by kernel_rfl) (fun _ _ _ h => h) (Or.inl ⟨by rfl, ?_⟩) (by assumption) ?_
      rotate_left
      · intro w hSw
        go_simp
        first | done | with_reducible rfl
      try simp (maxSteps := 2000000) only [Act.put, List.setIfInBounds_toArray, List.set_cons_zero, List.set_cons_succ, List.getElem_toArray, List.getElem_cons_zero, List.getElem_cons_succ]
      refine wpAnyH_take (i := 2) (oi := _) (v := ?_) rfl (by kernel_rfl) (by kernel_rfl) (by kernel_rfl) (fun _ _ _ h => h) (Or.inl ⟨by rfl, ?_⟩) (by assumption) ?_
      rotate_left
      · intro w hSw
        go_simp
        first | done | with_reducible rfl
      try simp (maxSteps := 2000000) only [Act.put, List.setIfInBounds_toArray, List.set_cons_zero, List.set_cons_succ, List.getElem_toArray, List.getElem_cons_zero, List.getElem_cons_succ]
      refine wpAnyH_take (i := 3) (oi := _) (v := ?_) rfl (by kernel_rfl) (by kernel_rfl) (by kernel_rfl) (fun _ _ _ h => h) (Or.inl ⟨by rfl, ?_⟩) (by assumption) ?_
      rotate_left
      · intro w hSw
        have q0 := HB.out w hSw
        go_simp
        first | done | with_reducible rfl
      try simp (maxSteps := 2000000) only [Act.put, List.setIfInBounds_toArray, List.set_cons_zero, List.set_cons_succ, List.getElem_toArray, List.getElem_cons_zero, List.getElem_cons_succ]
      refine wpAnyH_take (i := 4) (oi := _) (v := ?_) rfl (by kernel_rfl) (by kernel_rfl) (by kernel_rfl) (fun _ _ _ h => h) (Or.inl ⟨by rfl, ?_⟩) (by assumption) ?_
      rotate_left
      · intro w hSw
        go_simp
        first | done | with_reducible rfl
      try simp (maxSteps := 2000000) only [Act.put, List.setIfInBounds_toArray, List.set_cons_zero, List.set_cons_succ, List.getElem_toArray, List.getElem_cons_zero, List.getElem_cons_succ]
      have OwD := (On.refl wr).drew
      generalize wr.drew = wD at *
      refine wpAnyH_ready (rs := [5]) (by kernel_rfl) (by simp) ?_
      refine AllReadyH.cons (o := _) rfl (fun K hK => ?_) AllReadyH.nil
      go_simp
      refine (HC.out wD).mono ?_
      rintro e w1 ⟨rfl, O1⟩
      have O2 := OwD.call O1
      refine hK.out _ _ O2 (fun hHeld => ?_)
      clear hK K
      try simp (maxSteps := 2000000) only [Act.put, List.setIfInBounds_toArray, List.set_cons_zero, List.set_cons_succ, List.getElem_toArray, List.getElem_cons_zero, List.getElem_cons_succ]
      refine wpAnyH_ready (rs := [6]) (by kernel_rfl) (by simp) ?_
      refine AllReadyH.cons (o := _) rfl (fun K hK => ?_) AllReadyH.nil
      go_simp
      refine hK.out _ _ O2 (fun hHeld => ?_)
      clear hK K
      try simp (maxSteps := 2000000) only [Act.put, List.setIfInBounds_toArray, List.set_cons_zero, List.set_cons_succ, List.getElem_toArray, List.getElem_cons_zero, List.getElem_cons_succ]
      refine wpAnyH_done (by kernel_rfl) ?_ _
      have O3 := O.call O2
      go_wp2_with fail
      exact ⟨⟨i + 1, by omega, by go_num, by go_num, O3⟩, by simp [intOf]; omega⟩
    · obtain rfl : i = n := by omega
      go_wp2_with fail
      go_ret
      exact ⟨rfl, O⟩
set_option maxRecDepth 100000 in
theorem eqstrs_calls (g g' t t' cap cap' n : Nat) (xs : List ByteArray) (w : World) (hn : n ≤ 6) (hx : xs.length = n) (h : Row w g t (xs.map Value.string)) (h' : Row w g' t' (xs.map Value.string)) :
    Calls Tryz.prog 26 #[.slice (some ⟨g, 0, none⟩) n cap, .slice (some ⟨g', 0, none⟩) n cap'] w (fun e w' => e = .returned (.bool true) ∧ On w w') := by
  go_enter Tryz.func26, Tryz.ntmps26
  go_wp2_with fail
  go_loopw [5] (fun iv wr => ∃ i : Nat, i ≤ n ∧ iv = .int .i64 i ∧ On w wr) (fun iv _ => n - (intOf iv).toNat)
  case atStart => exact ⟨0, by omega, rfl, On.refl _⟩
  case round =>
    obtain ⟨i, hi, rfl, O⟩ := hrel
    by_cases hlt : i < n
    · have hil : i < xs.length := by omega
      have hc : (xs.map Value.string)[i]? = some (.string xs[i]) := by rw [List.getElem?_map, List.getElem?_eq_getElem hil]; rfl
      have HB := Lib.hid (fun w1 (O1 : On wr w1) => ((h.on O).on O1).cell hc)
      have HB' := Lib.hid (fun w1 (O1 : On wr w1) => ((h'.on O).on O1).cell hc)
      clear hc
      have q0 := HB.out wr (On.refl _)
      have q1 := HB'.out wr (On.refl _)
      generalize xs[i] = m at *
      go_wp2_with fail
      go_quiet (fail)
      go_wp2_with fail
      exact ⟨⟨i + 1, by omega, by go_num, O.call ((On.refl wr).drewN _)⟩, by simp [intOf]; omega⟩
    · obtain rfl : i = n := by omega
      go_wp2_with fail
      go_ret
      exact ⟨rfl, O⟩
end Go.Proofs.YtnadjlejlohgiaaGreatDoor.Mk

/- The laws' own marks: a row of files. -/
namespace Go.Proofs.YtnadjlejlohgiaaGreatDoor.Mk
open Go.RowKit Go.Proofs.YtnadjlejlohgiaaGreatDoor.Mem Go.Proofs.YtnadjlejlohgiaaGreatDoor.Nm Go.Proofs.YtnadjlejlohgiaaGreatDoor.Draw Go.Proofs.YtnadjlejlohgiaaGreatDoor.Wi
set_option linter.unusedVariables false
set_option linter.unusedSimpArgs false
/-- The mark of a cell. -/
def mkV (j : Nat) : Value := if j % 8 = 0 ∨ j % 8 = 7 then .string (mkT (1 + j)) else .int .i64 (1 + j : Nat)
/-- Marks of a row of files: the first i cells. -/
structure MkE (w : World) (g t n i : Nat) : Prop where mk :: (out : ∃ cs, Blk w g t cs ∧ n ≤ cs.size ∧ ∀ j, j < i → cs[j]? = some (mkV j))
theorem MkE.on {w w' : World} {g t n i : Nat} (h : MkE w g t n i) (O : On w w') : MkE w' g t n i := by
  obtain ⟨cs, hb, h1, h2⟩ := h.out
  exact ⟨cs, O.blk hb, h1, h2⟩
theorem MkE.cell {w : World} {g t n i j : Nat} (h : MkE w g t n i) (hj : j < i) : w.cell? ⟨g, j, none⟩ = some (mkV j) := by
  obtain ⟨cs, hb, h1, h2⟩ := h.out
  rw [hb.cell j]; exact h2 j hj
theorem MkE.here {w : World} {g t n i j : Nat} (h : MkE w g t n i) (hj : j < n) : (∃ u, w.cell? ⟨g, j, none⟩ = some u) ∧ w.frozen? ⟨g, j, none⟩ = false := by
  obtain ⟨cs, hb, h1, h2⟩ := h.out
  exact ⟨⟨cs[j], by rw [hb.cell j, Array.getElem?_eq_getElem]⟩, hb.frozen j⟩
theorem MkE.set {w : World} {g t n i : Nat} {v : Value} (h : MkE w g t n i) (hi : i < n) (hv : v = mkV i) : MkE (w.setCell ⟨g, i, none⟩ v) g t n (i + 1) := by
  obtain ⟨cs, hb, h1, h2⟩ := h.out
  refine ⟨_, hb.set i _, by rw [Array.size_setIfInBounds]; exact h1, fun j hj => ?_⟩
  rw [set_get (by omega)]
  split
  · rename_i e; rw [hv, e]
  · exact h2 j (by omega)
theorem MkE.of {w : World} {g t n : Nat} {xs : List Value} (h : Row w g t xs) (hx : xs.length = n) : MkE w g t n 0 := by
  obtain ⟨cs, hb, ht⟩ := h.out
  have h1 := congrArg List.length ht
  have h2 : cs.toList.length = cs.size := Array.length_toList
  rw [List.length_take] at h1
  exact ⟨cs, hb, by omega, fun j hj => by omega⟩
theorem mkV_text {i j : Nat} (hj : j = 0 ∨ j = 7) : mkV (i * 8 + j) = .string (mkT (1 + (i * 8 + j))) := by
  unfold mkV
  rw [if_pos (by omega)]
theorem mkV_num {i j : Nat} (h1 : 1 ≤ j) (h2 : j ≤ 6) : mkV (i * 8 + j) = .int .i64 (1 + (i * 8 + j) : Nat) := by
  unfold mkV
  rw [if_neg (by omega)]
set_option maxRecDepth 100000 in
set_option maxHeartbeats 400000 in
theorem markents_calls (g t cap n : Nat) (w : World) (hn : n ≤ 6) (h : MkE w g t (n * 8) 0) :
    Calls Tryz.prog 12 #[.slice (some ⟨g, 0, none⟩) n cap, .int .i64 1] w (fun e w' => e = .returned (.int .i64 (1 + n * 8 : Nat)) ∧ But g w w' ∧ MkE w' g t (n * 8) (n * 8)) := by
  have HM := Lib.hid (fun k h1 h2 w => marktext_calls k h1 h2 w)
  go_enter Tryz.func12, Tryz.ntmps12
  go_wp2_with fail
  go_loopw [1, 5] (fun kv iv wr => ∃ i q : Nat, i ≤ n ∧ kv = .int .i64 q ∧ iv = .int .i64 i ∧ RowKit.Hid (q = 1 + i * 8) ∧ q ≤ 49 ∧ But g w wr ∧ MkE wr g t (n * 8) (i * 8)) (fun _ iv _ => n - (intOf iv).toNat)
  case atStart => exact ⟨0, 1, by omega, rfl, rfl, Lib.hid rfl, by omega, But.refl _ _, h⟩
  case round =>
    obtain ⟨i, q, hi, rfl, rfl, HQ, hq49, T, S⟩ := hrel
    by_cases hlt : i < n
    · have hq1 : 1 ≤ q := by have := HQ.out; omega
      have q41 : q ≤ 41 := by have := HQ.out; omega
      have HC := Lib.hid (fun w => HM.out q (by omega) (by omega) w)
      go_wp2_with fail
      refine (HC.out wr).mono ?_
      rintro e w1 ⟨rfl, O1⟩
      replace S := S.on O1
      replace T := T.trans (But.of (g := g) O1)
      obtain ⟨⟨u0, q0⟩, f0⟩ := S.here (j := i * 8) (by omega)
      go_upto_region 5 with fail
      replace S := S.set (by omega) (show Value.string (mkT q) = mkV (i * 8) by rw [HQ.out]; exact (mkV_text (i := i) (j := 0) (Or.inl rfl)).symm)
      replace T := T.trans (But.set g _ (i * 8) (.string (mkT q)))
      generalize w1.setCell ⟨g, i * 8, none⟩ (.string (mkT q)) = w2 at *
      clear q0 f0 u0
      obtain ⟨⟨u1, q1⟩, f1⟩ := S.here (j := i * 8 + 1) (by omega)
      go_upto_region 7 with fail
      have S : MkE _ g t (n * 8) (i * 8 + 2) := S.set (by omega) (show Value.int .i64 ((q : Int) + 1) = mkV (i * 8 + 1) by rw [mkV_num (by omega) (by omega), ← show (q : Int) + 1 = ((1 + (i * 8 + 1) : Nat) : Int) from by have := HQ.out; omega])
      replace T := T.trans (But.set g _ (i * 8 + 1) (.int .i64 ((q : Int) + 1)))
      generalize w2.setCell ⟨g, i * 8 + 1, none⟩ (.int .i64 ((q : Int) + 1)) = w3 at *
      clear q1 f1 u1
      obtain ⟨⟨u2, q2⟩, f2⟩ := S.here (j := i * 8 + 2) (by omega)
      go_upto_region 9 with fail
      have S : MkE _ g t (n * 8) (i * 8 + 3) := S.set (by omega) (show Value.int .i64 ((q : Int) + 1 + 1) = mkV (i * 8 + 2) by rw [mkV_num (by omega) (by omega), ← show (q : Int) + 1 + 1 = ((1 + (i * 8 + 2) : Nat) : Int) from by have := HQ.out; omega])
      replace T := T.trans (But.set g _ (i * 8 + 1 + 1) (.int .i64 ((q : Int) + 1 + 1)))
      generalize w3.setCell ⟨g, i * 8 + 1 + 1, none⟩ (.int .i64 ((q : Int) + 1 + 1)) = w4 at *
      clear q2 f2 u2
      obtain ⟨⟨u3, q3⟩, f3⟩ := S.here (j := i * 8 + 3) (by omega)
      go_upto_region 11 with fail
      have S : MkE _ g t (n * 8) (i * 8 + 4) := S.set (by omega) (show Value.int .i64 ((q : Int) + 1 + 1 + 1) = mkV (i * 8 + 3) by rw [mkV_num (by omega) (by omega), ← show (q : Int) + 1 + 1 + 1 = ((1 + (i * 8 + 3) : Nat) : Int) from by have := HQ.out; omega])
      replace T := T.trans (But.set g _ (i * 8 + 1 + 2) (.int .i64 ((q : Int) + 1 + 1 + 1)))
      generalize w4.setCell ⟨g, i * 8 + 1 + 2, none⟩ (.int .i64 ((q : Int) + 1 + 1 + 1)) = w5 at *
      clear q3 f3 u3
      obtain ⟨⟨u4, q4⟩, f4⟩ := S.here (j := i * 8 + 4) (by omega)
      go_upto_region 13 with fail
      have S : MkE _ g t (n * 8) (i * 8 + 5) := S.set (by omega) (show Value.int .i64 ((q : Int) + 1 + 1 + 1 + 1) = mkV (i * 8 + 4) by rw [mkV_num (by omega) (by omega), ← show (q : Int) + 1 + 1 + 1 + 1 = ((1 + (i * 8 + 4) : Nat) : Int) from by have := HQ.out; omega])
      replace T := T.trans (But.set g _ (i * 8 + 1 + 3) (.int .i64 ((q : Int) + 1 + 1 + 1 + 1)))
      generalize w5.setCell ⟨g, i * 8 + 1 + 3, none⟩ (.int .i64 ((q : Int) + 1 + 1 + 1 + 1)) = w6 at *
      clear q4 f4 u4
      obtain ⟨⟨u5, q5⟩, f5⟩ := S.here (j := i * 8 + 5) (by omega)
      go_upto_region 15 with fail
      have S : MkE _ g t (n * 8) (i * 8 + 6) := S.set (by omega) (show Value.int .i64 ((q : Int) + 1 + 1 + 1 + 1 + 1) = mkV (i * 8 + 5) by rw [mkV_num (by omega) (by omega), ← show (q : Int) + 1 + 1 + 1 + 1 + 1 = ((1 + (i * 8 + 5) : Nat) : Int) from by have := HQ.out; omega])
      replace T := T.trans (But.set g _ (i * 8 + 1 + 4) (.int .i64 ((q : Int) + 1 + 1 + 1 + 1 + 1)))
      generalize w6.setCell ⟨g, i * 8 + 1 + 4, none⟩ (.int .i64 ((q : Int) + 1 + 1 + 1 + 1 + 1)) = w7 at *
      clear q5 f5 u5
      obtain ⟨⟨u6, q6⟩, f6⟩ := S.here (j := i * 8 + 6) (by omega)
      go_upto_region 17 with fail
      have S : MkE _ g t (n * 8) (i * 8 + 7) := S.set (by omega) (show Value.int .i64 ((q : Int) + 1 + 1 + 1 + 1 + 1 + 1) = mkV (i * 8 + 6) by rw [mkV_num (by omega) (by omega), ← show (q : Int) + 1 + 1 + 1 + 1 + 1 + 1 = ((1 + (i * 8 + 6) : Nat) : Int) from by have := HQ.out; omega])
      replace T := T.trans (But.set g _ (i * 8 + 1 + 5) (.int .i64 ((q : Int) + 1 + 1 + 1 + 1 + 1 + 1)))
      generalize w7.setCell ⟨g, i * 8 + 1 + 5, none⟩ (.int .i64 ((q : Int) + 1 + 1 + 1 + 1 + 1 + 1)) = w8 at *
      clear q6 f6 u6
      have HC7 := Lib.hid (fun w => HM.out (q + 7) (by omega) (by omega) w)
      rw [show ((q + 7 : Nat) : Int) = (q : Int) + 1 + 1 + 1 + 1 + 1 + 1 + 1 from by omega] at HC7
      have HV : RowKit.Hid (Value.string (mkT (q + 7)) = mkV (i * 8 + 7)) := Lib.hid (by rw [mkV_text (Or.inr rfl), HQ.out, show 1 + i * 8 + 7 = 1 + (i * 8 + 7) from by omega])
      generalize mkT (q + 7) = m at *
      go_wp2_with fail
      refine (HC7.out w8).mono ?_
      rintro e w9 ⟨rfl, O9⟩
      replace S := S.on O9
      replace T := T.trans (But.of (g := g) O9)
      obtain ⟨⟨u7, q7⟩, f7⟩ := S.here (j := i * 8 + 7) (by omega)
      go_upto_region 19 with fail
      have S : MkE _ g t (n * 8) (i * 8 + 8) := S.set (by omega) HV.out
      replace T := T.trans (But.set g _ (i * 8 + 7) (.string m))
      generalize w9.setCell ⟨g, i * 8 + 7, none⟩ (.string m) = w10 at *
      clear q7 f7 u7
      go_wp2_with fail
      exact ⟨⟨i + 1, q + 8, by omega, by go_num, by go_num, Lib.hid (by have := HQ.out; omega), by have := HQ.out; omega, T, (by rw [show (i + 1) * 8 = i * 8 + 8 from by omega]; exact S)⟩, by simp [intOf]; omega⟩
    · obtain rfl : i = n := by omega
      go_wp2_with fail
      go_ret
      have hq := HQ.out
      subst hq
      exact ⟨rfl, T, S⟩
set_option maxRecDepth 100000 in
set_option maxHeartbeats 2000000 in
theorem heldents_calls (g t cap n : Nat) (w : World) (hn : n ≤ 6) (h : MkE w g t (n * 8) (n * 8)) :
    Calls Tryz.prog 13 #[.slice (some ⟨g, 0, none⟩) n cap, .int .i64 1] w (Tells w (.int .i64 (1 + n * 8 : Nat))) := by
  have HM := Lib.hid (fun k h1 h2 w => marktext_calls k h1 h2 w)
  go_enter Tryz.func13, Tryz.ntmps13
  go_wp2_with fail
  go_loopw [1, 5] (fun kv iv wr => ∃ i q : Nat, i ≤ n ∧ kv = .int .i64 q ∧ iv = .int .i64 i ∧ RowKit.Hid (q = 1 + i * 8) ∧ q ≤ 49 ∧ On w wr) (fun _ iv _ => n - (intOf iv).toNat)
  case atStart => exact ⟨0, 1, by omega, rfl, rfl, Lib.hid rfl, by omega, On.refl _⟩
  case round =>
    obtain ⟨i, q, hi, rfl, rfl, HQ, hq49, O⟩ := hrel
    by_cases hlt : i < n
    · have hq1 : 1 ≤ q := by have := HQ.out; omega
      have q41 : q ≤ 41 := by have := HQ.out; omega
      have HQ0 := HQ.out
      have Owr := On.refl wr
      have HC0 := Lib.hid (fun w => HM.out q (by omega) (by omega) w)
      have HC7 := Lib.hid (fun w => HM.out (q + 7) (by omega) (by omega) w)
      rw [show ((q + 7 : Nat) : Int) = (q : Int) + 1 + 1 + 1 + 1 + 1 + 1 + 1 from by omega] at HC7
      have HB0 := Lib.hid (fun w1 (O1 : On wr w1) => ((h.on O).on O1).cell (j := i * 8) (by omega))
      have HB7 := Lib.hid (fun w1 (O1 : On wr w1) => ((h.on O).on O1).cell (j := i * 8 + 7) (by omega))
      rw [show mkV (i * 8) = Value.string (mkT q) from by rw [show mkV (i * 8) = mkV (i * 8 + 0) from rfl, mkV_text (Or.inl rfl), HQ0]; rfl] at HB0
      rw [show mkV (i * 8 + 7) = Value.string (mkT (q + 7)) from by rw [mkV_text (Or.inr rfl), HQ0, show 1 + i * 8 + 7 = 1 + (i * 8 + 7) from by omega]] at HB7
      have HB1 := Lib.hid (fun w1 (O1 : On wr w1) => ((h.on O).on O1).cell (j := i * 8 + 1) (by omega))
      rw [show mkV (i * 8 + 1) = Value.int .i64 ((q : Int) + 1) from by rw [mkV_num (by omega) (by omega), show ((1 + (i * 8 + 1) : Nat) : Int) = (q : Int) + 1 from by omega]] at HB1
      have HB2 := Lib.hid (fun w1 (O1 : On wr w1) => ((h.on O).on O1).cell (j := i * 8 + 2) (by omega))
      rw [show mkV (i * 8 + 2) = Value.int .i64 ((q : Int) + 1 + 1) from by rw [mkV_num (by omega) (by omega), show ((1 + (i * 8 + 2) : Nat) : Int) = (q : Int) + 1 + 1 from by omega]] at HB2
      have HZ2 := Lib.hid (fun w1 O1 => (show w1.cell? ⟨g, i * 8 + 1 + 1, none⟩ = some (Value.int .i64 ((q : Int) + 1 + 1)) from HB2.out w1 O1))
      have HB3 := Lib.hid (fun w1 (O1 : On wr w1) => ((h.on O).on O1).cell (j := i * 8 + 3) (by omega))
      rw [show mkV (i * 8 + 3) = Value.int .i64 ((q : Int) + 1 + 1 + 1) from by rw [mkV_num (by omega) (by omega), show ((1 + (i * 8 + 3) : Nat) : Int) = (q : Int) + 1 + 1 + 1 from by omega]] at HB3
      have HZ3 := Lib.hid (fun w1 O1 => (show w1.cell? ⟨g, i * 8 + 1 + 2, none⟩ = some (Value.int .i64 ((q : Int) + 1 + 1 + 1)) from HB3.out w1 O1))
      have HB4 := Lib.hid (fun w1 (O1 : On wr w1) => ((h.on O).on O1).cell (j := i * 8 + 4) (by omega))
      rw [show mkV (i * 8 + 4) = Value.int .i64 ((q : Int) + 1 + 1 + 1 + 1) from by rw [mkV_num (by omega) (by omega), show ((1 + (i * 8 + 4) : Nat) : Int) = (q : Int) + 1 + 1 + 1 + 1 from by omega]] at HB4
      have HZ4 := Lib.hid (fun w1 O1 => (show w1.cell? ⟨g, i * 8 + 1 + 3, none⟩ = some (Value.int .i64 ((q : Int) + 1 + 1 + 1 + 1)) from HB4.out w1 O1))
      have HB5 := Lib.hid (fun w1 (O1 : On wr w1) => ((h.on O).on O1).cell (j := i * 8 + 5) (by omega))
      rw [show mkV (i * 8 + 5) = Value.int .i64 ((q : Int) + 1 + 1 + 1 + 1 + 1) from by rw [mkV_num (by omega) (by omega), show ((1 + (i * 8 + 5) : Nat) : Int) = (q : Int) + 1 + 1 + 1 + 1 + 1 from by omega]] at HB5
      have HZ5 := Lib.hid (fun w1 O1 => (show w1.cell? ⟨g, i * 8 + 1 + 4, none⟩ = some (Value.int .i64 ((q : Int) + 1 + 1 + 1 + 1 + 1)) from HB5.out w1 O1))
      have HB6 := Lib.hid (fun w1 (O1 : On wr w1) => ((h.on O).on O1).cell (j := i * 8 + 6) (by omega))
      rw [show mkV (i * 8 + 6) = Value.int .i64 ((q : Int) + 1 + 1 + 1 + 1 + 1 + 1) from by rw [mkV_num (by omega) (by omega), show ((1 + (i * 8 + 6) : Nat) : Int) = (q : Int) + 1 + 1 + 1 + 1 + 1 + 1 from by omega]] at HB6
      have HZ6 := Lib.hid (fun w1 O1 => (show w1.cell? ⟨g, i * 8 + 1 + 5, none⟩ = some (Value.int .i64 ((q : Int) + 1 + 1 + 1 + 1 + 1 + 1)) from HB6.out w1 O1))
      clear HQ0
      generalize mkT q = m0 at *
      generalize mkT (q + 7) = m7 at *
      go_wp2_with fail
      refine wp_region_held_drew (S := fun W => On wr W) (by kernel_rfl) (On.refl _).drew (fun hHeld => ?_)
      refine wpAnyH_take (i := 0) (oi := _) (v := ?_) rfl (by kernel_rfl) (by kernel_rfl) (by kernel_rfl) (fun _ _ _ h => h) (Or.inl ⟨by rfl, ?_⟩) (by assumption) ?_
      rotate_left
      · intro w hSw
        go_simp
        first | done | with_reducible rfl
      try simp (maxSteps := 2000000) only [Act.put, List.setIfInBounds_toArray, List.set_cons_zero, List.set_cons_succ, List.getElem_toArray, List.getElem_cons_zero, List.getElem_cons_succ]
      refine wpAnyH_take (i := 1) (oi := _) (v := ?_) rfl (by kernel_rfl) (by kernel_rfl) (by kernel_rfl) (fun _ _ _ h => h) (Or.inl ⟨by rfl, ?_⟩) (by assumption) ?_
      rotate_left
      · intro w hSw
        go_simp
        first | done | with_reducible rfl
      try simp (maxSteps := 2000000) only [Act.put, List.setIfInBounds_toArray, List.set_cons_zero, List.set_cons_succ, List.getElem_toArray, List.getElem_cons_zero, List.getElem_cons_succ]
      refine wpAnyH_take (i := 2) (oi := _) (v := ?_) rfl (by kernel_rfl) (by kernel_rfl) (by kernel_rfl) (fun _ _ _ h => h) (Or.inl ⟨by rfl, ?_⟩) (by assumption) ?_
      rotate_left
      · intro w hSw
        go_simp
        first | done | with_reducible rfl
      try simp (maxSteps := 2000000) only [Act.put, List.setIfInBounds_toArray, List.set_cons_zero, List.set_cons_succ, List.getElem_toArray, List.getElem_cons_zero, List.getElem_cons_succ]
      refine wpAnyH_take (i := 3) (oi := _) (v := ?_) rfl (by kernel_rfl) (by kernel_rfl) (by kernel_rfl) (fun _ _ _ h => h) (Or.inl ⟨by rfl, ?_⟩) (by assumption) ?_
      rotate_left
      · intro w hSw
        go_simp
        first | done | with_reducible rfl
      try simp (maxSteps := 2000000) only [Act.put, List.setIfInBounds_toArray, List.set_cons_zero, List.set_cons_succ, List.getElem_toArray, List.getElem_cons_zero, List.getElem_cons_succ]
      refine wpAnyH_take (i := 4) (oi := _) (v := ?_) rfl (by kernel_rfl) (by kernel_rfl) (by kernel_rfl) (fun _ _ _ h => h) (Or.inl ⟨by rfl, ?_⟩) (by assumption) ?_
      rotate_left
      · intro w hSw
        have z0 := HB0.out w (Owr.call hSw)
        go_simp
        first | done | with_reducible rfl
      try simp (maxSteps := 2000000) only [Act.put, List.setIfInBounds_toArray, List.set_cons_zero, List.set_cons_succ, List.getElem_toArray, List.getElem_cons_zero, List.getElem_cons_succ]
      refine wpAnyH_take (i := 5) (oi := _) (v := ?_) rfl (by kernel_rfl) (by kernel_rfl) (by kernel_rfl) (fun _ _ _ h => h) (Or.inl ⟨by rfl, ?_⟩) (by assumption) ?_
      rotate_left
      · intro w hSw
        go_simp
        first | done | with_reducible rfl
      try simp (maxSteps := 2000000) only [Act.put, List.setIfInBounds_toArray, List.set_cons_zero, List.set_cons_succ, List.getElem_toArray, List.getElem_cons_zero, List.getElem_cons_succ]
      have OwD := (On.refl wr).drew
      generalize wr.drew = wD0 at *
      refine wpAnyH_ready (rs := [6]) (by kernel_rfl) (by simp) ?_
      refine AllReadyH.cons (o := _) rfl (fun K hK => ?_) AllReadyH.nil
      go_simp
      refine (HC0.out wD0).mono ?_
      rintro e w0a ⟨rfl, O1⟩
      have O2 := OwD.call O1
      refine hK.out _ _ O2 (fun hHeld => ?_)
      clear hK K
      try simp (maxSteps := 2000000) only [Act.put, List.setIfInBounds_toArray, List.set_cons_zero, List.set_cons_succ, List.getElem_toArray, List.getElem_cons_zero, List.getElem_cons_succ]
      refine wpAnyH_ready (rs := [7]) (by kernel_rfl) (by simp) ?_
      refine AllReadyH.cons (o := _) rfl (fun K hK => ?_) AllReadyH.nil
      go_simp
      refine hK.out _ _ O2 (fun hHeld => ?_)
      clear hK K
      try simp (maxSteps := 2000000) only [Act.put, List.setIfInBounds_toArray, List.set_cons_zero, List.set_cons_succ, List.getElem_toArray, List.getElem_cons_zero, List.getElem_cons_succ]
      refine wpAnyH_done (by kernel_rfl) ?_ _
      have Ow0a := Owr.call O2
      clear O1 O2 OwD
      have z1 := HB1.out _ Ow0a
      have z2 := HZ2.out _ Ow0a
      have z3 := HZ3.out _ Ow0a
      have z4 := HZ4.out _ Ow0a
      have z5 := HZ5.out _ Ow0a
      have z6 := HZ6.out _ Ow0a
      go_wp2_with fail
      refine wp_region_held_drew (S := fun W => On w0a W) (by kernel_rfl) (On.refl _).drew (fun hHeld => ?_)
      refine wpAnyH_take (i := 0) (oi := _) (v := ?_) rfl (by kernel_rfl) (by kernel_rfl) (by kernel_rfl) (fun _ _ _ h => h) (Or.inl ⟨by rfl, ?_⟩) (by assumption) ?_
      rotate_left
      · intro w hSw
        go_simp
        first | done | with_reducible rfl
      try simp (maxSteps := 2000000) only [Act.put, List.setIfInBounds_toArray, List.set_cons_zero, List.set_cons_succ, List.getElem_toArray, List.getElem_cons_zero, List.getElem_cons_succ]
      refine wpAnyH_take (i := 1) (oi := _) (v := ?_) rfl (by kernel_rfl) (by kernel_rfl) (by kernel_rfl) (fun _ _ _ h => h) (Or.inl ⟨by rfl, ?_⟩) (by assumption) ?_
      rotate_left
      · intro w hSw
        go_simp
        first | done | with_reducible rfl
      try simp (maxSteps := 2000000) only [Act.put, List.setIfInBounds_toArray, List.set_cons_zero, List.set_cons_succ, List.getElem_toArray, List.getElem_cons_zero, List.getElem_cons_succ]
      refine wpAnyH_take (i := 2) (oi := _) (v := ?_) rfl (by kernel_rfl) (by kernel_rfl) (by kernel_rfl) (fun _ _ _ h => h) (Or.inl ⟨by rfl, ?_⟩) (by assumption) ?_
      rotate_left
      · intro w hSw
        go_simp
        first | done | with_reducible rfl
      try simp (maxSteps := 2000000) only [Act.put, List.setIfInBounds_toArray, List.set_cons_zero, List.set_cons_succ, List.getElem_toArray, List.getElem_cons_zero, List.getElem_cons_succ]
      refine wpAnyH_take (i := 3) (oi := _) (v := ?_) rfl (by kernel_rfl) (by kernel_rfl) (by kernel_rfl) (fun _ _ _ h => h) (Or.inl ⟨by rfl, ?_⟩) (by assumption) ?_
      rotate_left
      · intro w hSw
        go_simp
        first | done | with_reducible rfl
      try simp (maxSteps := 2000000) only [Act.put, List.setIfInBounds_toArray, List.set_cons_zero, List.set_cons_succ, List.getElem_toArray, List.getElem_cons_zero, List.getElem_cons_succ]
      refine wpAnyH_take (i := 4) (oi := _) (v := ?_) rfl (by kernel_rfl) (by kernel_rfl) (by kernel_rfl) (fun _ _ _ h => h) (Or.inl ⟨by rfl, ?_⟩) (by assumption) ?_
      rotate_left
      · intro w hSw
        have z0 := HB7.out w (Ow0a.call hSw)
        go_simp
        first | done | with_reducible rfl
      try simp (maxSteps := 2000000) only [Act.put, List.setIfInBounds_toArray, List.set_cons_zero, List.set_cons_succ, List.getElem_toArray, List.getElem_cons_zero, List.getElem_cons_succ]
      refine wpAnyH_take (i := 5) (oi := _) (v := ?_) rfl (by kernel_rfl) (by kernel_rfl) (by kernel_rfl) (fun _ _ _ h => h) (Or.inl ⟨by rfl, ?_⟩) (by assumption) ?_
      rotate_left
      · intro w hSw
        go_simp
        first | done | with_reducible rfl
      try simp (maxSteps := 2000000) only [Act.put, List.setIfInBounds_toArray, List.set_cons_zero, List.set_cons_succ, List.getElem_toArray, List.getElem_cons_zero, List.getElem_cons_succ]
      have OwD := (On.refl w0a).drew
      generalize w0a.drew = wD7 at *
      refine wpAnyH_ready (rs := [6]) (by kernel_rfl) (by simp) ?_
      refine AllReadyH.cons (o := _) rfl (fun K hK => ?_) AllReadyH.nil
      go_simp
      refine (HC7.out wD7).mono ?_
      rintro e w7a ⟨rfl, O1⟩
      have O2 := OwD.call O1
      refine hK.out _ _ O2 (fun hHeld => ?_)
      clear hK K
      try simp (maxSteps := 2000000) only [Act.put, List.setIfInBounds_toArray, List.set_cons_zero, List.set_cons_succ, List.getElem_toArray, List.getElem_cons_zero, List.getElem_cons_succ]
      refine wpAnyH_ready (rs := [7]) (by kernel_rfl) (by simp) ?_
      refine AllReadyH.cons (o := _) rfl (fun K hK => ?_) AllReadyH.nil
      go_simp
      refine hK.out _ _ O2 (fun hHeld => ?_)
      clear hK K
      try simp (maxSteps := 2000000) only [Act.put, List.setIfInBounds_toArray, List.set_cons_zero, List.set_cons_succ, List.getElem_toArray, List.getElem_cons_zero, List.getElem_cons_succ]
      refine wpAnyH_done (by kernel_rfl) ?_ _
      have Ow7a := Ow0a.call O2
      clear O1 O2 OwD
      go_wp2_with fail
      exact ⟨⟨i + 1, q + 8, by omega, by go_num, by go_num, Lib.hid (by have := HQ.out; omega), by have := HQ.out; omega, O.call Ow7a⟩, by simp [intOf]; omega⟩
    · obtain rfl : i = n := by omega
      go_wp2_with fail
      go_ret
      have hq := HQ.out
      subst hq
      exact ⟨rfl, O⟩
end Go.Proofs.YtnadjlejlohgiaaGreatDoor.Mk

/- The variable order as it is laid: what a row's condition says of it; a world for the rows' witnesses. -/
namespace Go.Proofs.YtnadjlejlohgiaaGreatDoor.Laid
open Go.RowKit Go.Proofs.YtnadjlejlohgiaaGreatDoor.Mem
theorem own : ownKnob Tryz.prog.godebug = none := by kernel_rfl
def listed : List (String × DataW Unit) := [("loop.example/corbel/impl.order", Rows.laid_loop_example_corbel_impl_order)]
theorem facts {W : World} (hl : laidMetH Tryz.prog [("loop.example/corbel/impl.order", Rows.laid_loop_example_corbel_impl_order)] W) : ∃ x, Wi.Ord W x := by
  have h : laidMet Tryz.prog [("loop.example/corbel/impl.order", Rows.laid_loop_example_corbel_impl_order)] W := hl
  obtain ⟨ps, ⟨g, t, cs, fuel, p, q, hg, ht, hv, hd, _, _⟩, _⟩ := h
  obtain rfl : 0 = g := Option.some.inj ((show Tryz.prog.globalNamed "loop.example/corbel/impl.order" = some 0 by kernel_rfl).symm.trans hg)
  obtain rfl : 98 = t := Option.some.inj ((show (Tryz.prog.globals[0]?).map (·.type) = some 98 by kernel_rfl).symm.trans ht)
  rcases ChangeShapes.open_ints Tryz.underlying98 Tryz.underlying3 (by kernel_rfl) hd with ⟨_, h0⟩ | ⟨x, l, c, zs, hcs, _, hlc, _, hz, hx, hcell, _⟩
  · cases h0
  · simp only [if_true] at hz
    have e := congrArg Prod.fst hx
    simp only [Rows.laid_loop_example_corbel_impl_order] at e
    injection e with e1 e2
    have d0 := congrArg List.length e2
    have d1 := congrArg List.length e1
    simp [ChangeShapes.lits] at d0 d1
    have hl19 : l = 19 := by omega
    have hc19 : c = 19 := by omega
    subst hl19; subst hc19
    have hcs' : cs = #[.slice (some x) 19 19] := by rw [← Array.toList_inj, hcs]
    have hzs : ∀ i, i < 19 → zs.getD i 0 = (De.order.getD i 0 : Nat) := by
      intro i hi
      have e3 : (ChangeShapes.lits (H := Unit) .i64 (zs.take 19)).map (fun d => ChangeShapes.numOf (d, [])) = zs.take 19 := by
        simp [ChangeShapes.lits, Function.comp_def, ChangeShapes.numOf]
      rw [← e1] at e3
      have e4 : zs = De.order.map (fun n : Nat => (n : Int)) := by
        rw [← List.take_of_length_le (show zs.length ≤ 19 by omega), ← e3]; rfl
      rw [e4, List.getD_eq_getElem?_getD, List.getD_eq_getElem?_getD, List.getElem?_map]
      rw [List.getElem?_eq_getElem (show i < De.order.length from hi)]; rfl
    refine ⟨x, ?_, fun i hi => ?_⟩
    · simpa [hcs'] using World.var?_cell hg hv 0
    · rw [hcell i (by omega), hzs i hi]
end Go.Proofs.YtnadjlejlohgiaaGreatDoor.Laid

/- What is laid where names are read, too: the variable order, Go's two tables for UTF-8; and the library's cell of a length. -/
namespace Go.Proofs.YtnadjlejlohgiaaGreatDoor.Laid
open Go.RowKit Go.Proofs.YtnadjlejlohgiaaGreatDoor.Mem
def listed3 : List (String × DataW Unit) := [("unicode/utf8.acceptRanges", Rows.laid_unicode_utf8_acceptRanges), ("loop.example/corbel/impl.order", Rows.laid_loop_example_corbel_impl_order), ("unicode/utf8.first", Rows.laid_unicode_utf8_first)]
noncomputable def laidWorld3 (os : Os) : World := World.laidAll Tryz.prog os listed3
set_option maxRecDepth 1000000 in
theorem laid_met3 (os : Os) (args : Array Value) : laidMet Tryz.prog [("unicode/utf8.acceptRanges", Rows.laid_unicode_utf8_acceptRanges), ("loop.example/corbel/impl.order", Rows.laid_loop_example_corbel_impl_order), ("unicode/utf8.first", Rows.laid_unicode_utf8_first)] ((laidWorld3 os).forCall (fun _ _ => 0) ⟨#[], args, []⟩).memory :=
  laidMet_laidAll (laid := listed3) args (by kernel_rfl) (by kernel_rfl)
theorem order3 {W : World} (hl : laidMetH Tryz.prog [("unicode/utf8.acceptRanges", Rows.laid_unicode_utf8_acceptRanges), ("loop.example/corbel/impl.order", Rows.laid_loop_example_corbel_impl_order), ("unicode/utf8.first", Rows.laid_unicode_utf8_first)] W) : ∃ x, Wi.Ord W x := by
  have h : laidMet Tryz.prog [("unicode/utf8.acceptRanges", Rows.laid_unicode_utf8_acceptRanges), ("loop.example/corbel/impl.order", Rows.laid_loop_example_corbel_impl_order), ("unicode/utf8.first", Rows.laid_unicode_utf8_first)] W := hl
  obtain ⟨ps, ⟨_, _, _, _, _, _, _, _, _, _, ⟨g, t, cs, fuel, p, q, hg, ht, hv, hd, _, _⟩, _⟩, _⟩ := h
  obtain rfl : 0 = g := Option.some.inj ((show Tryz.prog.globalNamed "loop.example/corbel/impl.order" = some 0 by kernel_rfl).symm.trans hg)
  obtain rfl : 98 = t := Option.some.inj ((show (Tryz.prog.globals[0]?).map (·.type) = some 98 by kernel_rfl).symm.trans ht)
  rcases ChangeShapes.open_ints Tryz.underlying98 Tryz.underlying3 (by kernel_rfl) hd with ⟨_, h0⟩ | ⟨x, l, c, zs, hcs, _, hlc, _, hz, hx, hcell, _⟩
  · cases h0
  · simp only [if_true] at hz
    have e := congrArg Prod.fst hx
    simp only [Rows.laid_loop_example_corbel_impl_order] at e
    injection e with e1 e2
    have d0 := congrArg List.length e2
    have d1 := congrArg List.length e1
    simp [ChangeShapes.lits] at d0 d1
    have hl19 : l = 19 := by omega
    have hc19 : c = 19 := by omega
    subst hl19; subst hc19
    have hcs' : cs = #[.slice (some x) 19 19] := by rw [← Array.toList_inj, hcs]
    have hzs : ∀ i, i < 19 → zs.getD i 0 = (De.order.getD i 0 : Nat) := by
      intro i hi
      have e3 : (ChangeShapes.lits (H := Unit) .i64 (zs.take 19)).map (fun d => ChangeShapes.numOf (d, [])) = zs.take 19 := by
        simp [ChangeShapes.lits, Function.comp_def, ChangeShapes.numOf]
      rw [← e1] at e3
      have e4 : zs = De.order.map (fun n : Nat => (n : Int)) := by
        rw [← List.take_of_length_le (show zs.length ≤ 19 by omega), ← e3]; rfl
      rw [e4, List.getD_eq_getElem?_getD, List.getD_eq_getElem?_getD, List.getElem?_map]
      rw [List.getElem?_eq_getElem (show i < De.order.length from hi)]; rfl
    refine ⟨x, ?_, fun i hi => ?_⟩
    · simpa [hcs'] using World.var?_cell hg hv 0
    · rw [hcell i (by omega), hzs i hi]
theorem facts3 {W : World} (hl : laidMetH Tryz.prog [("unicode/utf8.acceptRanges", Rows.laid_unicode_utf8_acceptRanges), ("loop.example/corbel/impl.order", Rows.laid_loop_example_corbel_impl_order), ("unicode/utf8.first", Rows.laid_unicode_utf8_first)] W) (h : W.ShapedOpen Tryz.prog) : (∃ x, Wi.Ord W x) ∧ Nm.Fact W := ⟨order3 hl, Nm.facts hl h⟩
end Go.Proofs.YtnadjlejlohgiaaGreatDoor.Laid

