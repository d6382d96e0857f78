/- Own texts joined: Ri, Si, Or, Mp, Rs, Byt, Ad, Rt, WTokS, WStore. -/
import Derived.Deep.QuietTactic
import Derived.BigQuiet
import Derived.Deep.DeepCutAuto
import Derived.Test.YtnadjlejlohgiaaGreatDoorChecked
import Derived.DeepKeys4
import Derived.Maps.Keyed
import Derived.Maps.Own
import Derived.Lib.Hide
import Derived.Carry
import Derived.Test.YtnadjlejlohgiaaGreatDoorS6
import Derived.Test.YtnadjlejlohgiaaGreatDoorS8
import Derived.Test.YtnadjlejlohgiaaGreatDoorS10
import Derived.Test.YtnadjlejlohgiaaGreatDoorS11
import Derived.Test.YtnadjlejlohgiaaGreatDoorS12
import Derived.Test.YtnadjlejlohgiaaGreatDoorS13
import Derived.Test.YtnadjlejlohgiaaGreatDoorS16
import Derived.Test.YtnadjlejlohgiaaGreatDoorS17
/- The program's reader of bits: what bit, get and even do. Conditions: a reader of a text. -/
namespace Go.Proofs.YtnadjlejlohgiaaGreatDoor.Wi
open Go.RowKit Go.Proofs.YtnadjlejlohgiaaGreatDoor.Mem Go.Proofs.YtnadjlejlohgiaaGreatDoor.Bt
set_option linter.unusedVariables false
set_option linter.unusedSimpArgs false
/-- The bits of a text from a place on. -/
def rest (s : ByteArray) (p : Nat) : List Bool := (unpack (chars s)).drop p
theorem unpack_length : ∀ (l : List Nat), (unpack l).length = 8 * l.length
  | [] => rfl
  | x :: l => by
    have e : unpack (x :: l) = bitsOf x 8 ++ unpack l := rfl
    rw [e, List.length_append, bits_length, unpack_length l, List.length_cons]; omega
theorem rest_length (s : ByteArray) (p : Nat) : (rest s p).length = 8 * s.size - p := by unfold rest; rw [List.length_drop, unpack_length, chars_length]
/-- The program's reader at block g: the text, where it is, whether it is bad. -/
structure IR (w : World) (g : Nat) (s : ByteArray) (p : Nat) (bad : Bool) : Prop where mk ::
  out : Blk w g 95 #[.string s, .int .i64 (p : Int), .bool bad]
  le : p ≤ 8 * s.size
  sz : s.size ≤ 1000000
theorem IR.kp {w w' : World} {g p : Nat} {s : ByteArray} {b : Bool} {S : List Nat} (h : IR w g s p b) (k : Kp S w w') (hg : g ∉ S) : IR w' g s p b := ⟨k.blk h.out hg, h.le, h.sz⟩
theorem IR.on {w w' : World} {g p : Nat} {s : ByteArray} {b : Bool} (h : IR w g s p b) (O : On w w') : IR w' g s p b := h.kp (Kp.of [] O) (by simp)
end Go.Proofs.YtnadjlejlohgiaaGreatDoor.Wi

/- The specification's reader of bits: what bit, num and whole do. Conditions: a reader of a text. -/
namespace Go.Proofs.YtnadjlejlohgiaaGreatDoor.Wi
open Go.RowKit Go.Proofs.YtnadjlejlohgiaaGreatDoor.Mem Go.Proofs.YtnadjlejlohgiaaGreatDoor.Bt
set_option linter.unusedVariables false
set_option linter.unusedSimpArgs false
/-- The specification's reader at block g: the text, where it is, whether it is bad. -/
structure SR (w : World) (g : Nat) (s : ByteArray) (p : Nat) (bad : Bool) : Prop where mk ::
  out : Blk w g 138 #[.string s, .int .i64 (p : Int), .bool bad]
  le : p ≤ 8 * s.size
  sz : s.size ≤ 1000000
theorem SR.kp {w w' : World} {g p : Nat} {s : ByteArray} {b : Bool} {S : List Nat} (h : SR w g s p b) (k : Kp S w w') (hg : g ∉ S) : SR w' g s p b := ⟨k.blk h.out hg, h.le, h.sz⟩
theorem SR.on {w w' : World} {g p : Nat} {s : ByteArray} {b : Bool} (h : SR w g s p b) (O : On w w') : SR w' g s p b := h.kp (Kp.of [] O) (by simp)
end Go.Proofs.YtnadjlejlohgiaaGreatDoor.Wi

/- The variable order as it is laid. -/
namespace Go.Proofs.YtnadjlejlohgiaaGreatDoor.Wi
open Go.RowKit Go.Proofs.YtnadjlejlohgiaaGreatDoor.Mem Go.Proofs.YtnadjlejlohgiaaGreatDoor.Bt Go.Proofs.YtnadjlejlohgiaaGreatDoor.Cd Go.Proofs.YtnadjlejlohgiaaGreatDoor.De
set_option linter.unusedVariables false
set_option linter.unusedSimpArgs false
/-- The variable order as it is laid. -/
structure Ord (w : World) (x : Addr) : Prop where mk ::
  glob : w.cell? ⟨0, 0, none⟩ = some (.slice (some x) 19 19)
  cells : ∀ i, i < 19 → w.cell? (x.add i) = some (.int .i64 (order.getD i 0 : Nat))
theorem add_block (x : Addr) (i : Nat) : (x.add i).block = x.block := by unfold Addr.add; split <;> rfl
theorem Ord.glt {w : World} {x : Addr} (h : Ord w x) : 0 < w.heap.size := World.block_lt_of_cell? w _ h.glob
theorem Ord.lt {w : World} {x : Addr} (h : Ord w x) : x.block < w.heap.size := by
  have := World.block_lt_of_cell? w _ (h.cells 0 (by omega))
  rwa [add_block] at this
theorem Ord.kp {S : List Nat} {w w' : World} {x : Addr} (h : Ord w x) (k : Kp S w w') (h1 : 0 ∉ S) (h2 : x.block ∉ S) : Ord w' x :=
  ⟨(k.cell h.glt h1).trans h.glob, fun i hi => (k.cell (by rw [add_block]; exact h.lt) (by rw [add_block]; exact h2)).trans (h.cells i hi)⟩
theorem Ord.on {w w' : World} {x : Addr} (h : Ord w x) (O : On w w') : Ord w' x := h.kp (Kp.of [] O) (by simp) (by simp)
theorem Ord.len : order.length = 19 := rfl
theorem order_lt19 : ∀ i, i < 19 → order.getD i 0 < 19 := by decide
end Go.Proofs.YtnadjlejlohgiaaGreatDoor.Wi

/- A map from pieces of bits to numbers: how it is filled and looked up. -/
namespace Go.Proofs.YtnadjlejlohgiaaGreatDoor.Mem
open Go.RowKit Go.Maps
set_option linter.unusedVariables false
set_option linter.unusedSimpArgs false
theorem laid_out : laidOutB Tryz.prog = true := by kernel_rfl
theorem piece_wide : (match Tryz.prog.underlying 142 with | some (.array _ _) | some (.struct _) => true | _ => false) = true := by rw [Tryz.underlying142]
theorem piece_row : (142 : TypeId) < Tryz.prog.types.size := of_decide_eq_true (by kernel_rfl)
set_option maxRecDepth 100000 in
theorem piece_law : WideMaps.KeyLaw Tryz.prog 142 := deep_law_laid laid_out (m := 2) (by omega) piece_row (by kernel_rfl) piece_wide
theorem piece_keyed : Keyed Tryz.prog 142 := Keyed.of_law piece_law
def pc (c l : Nat) : Value := .agg #[.int .i64 (c : Int), .int .i64 (l : Int)]
theorem pc_inj {a b c d : Nat} (h : pc a b = pc c d) : a = c ∧ b = d := by
  unfold pc at h
  simp only [Value.agg.injEq, Array.mk.injEq, List.cons.injEq, Value.int.injEq, true_and, and_true] at h
  omega
theorem pc_key {c l : Nat} (hc : c < 100000) (hl : l < 100000) : ∃ kl, keyOf Tryz.prog 142 (pc c l) = some kl := by
  have w1 : (Lit.int .i64 (c : Int)).wf = true := by simp [Lit.wf, IntKind.min, IntKind.max, IntKind.signed, IntKind.bits]; omega
  have w2 : (Lit.int .i64 (l : Int)).wf = true := by simp [Lit.wf, IntKind.min, IntKind.max, IntKind.signed, IntKind.bits]; omega
  have hk : Tryz.prog.keyType 142 = true := by kernel_rfl
  have hcell : Tryz.prog.cellsOf 142 = 2 := by kernel_rfl
  have hci : Tryz.prog.cellsOf 3 = 1 := by kernel_rfl
  have hf : (pc c l).formed Tryz.prog 142 = true := by simp [pc, Value.formed, Tryz.underlying142, hcell]
  have hr := piece_row
  unfold keyOf
  rw [Tryz.underlying142]
  obtain ⟨m, hm⟩ : ∃ m, Tryz.prog.types.size = m + 1 := Nat.exists_eq_succ_of_ne_zero (Nat.ne_of_gt (Nat.zero_lt_of_lt hr))
  rw [hm]
  simp [hk, hf, Program.keyLits, Tryz.underlying142, Tryz.underlying3, hcell, hci, pc, Value.cells, w1, w2]
  exact hf
/-- The map at block m holds f: for pieces that f knows, their number. -/
structure Book (w : World) (m : Nat) (f : Nat → Nat → Option Nat) : Prop where mk :: (out : ∃ es clock, w.heap[m]? = some (.map es clock) ∧
  (∀ e ∈ es.toList, ∃ c l k : Nat, c < 100000 ∧ l < 100000 ∧ e.key = pc c l ∧ e.val = .int .i64 (k : Int) ∧ f c l = some k) ∧ ∀ c l k, f c l = some k → ∃ e ∈ es.toList, e.key = pc c l)
section
variable {w w' : World} {m : Nat} {f : Nat → Nat → Option Nat}
theorem Book.lt (h : Book w m f) : m < w.heap.size := by
  obtain ⟨es, clock, hb, _⟩ := h.out
  rcases Nat.lt_or_ge m w.heap.size with h | h
  · exact h
  · rw [Array.getElem?_eq_none h] at hb; cases hb
theorem Book.kp {S : List Nat} (h : Book w m f) (k : Kp S w w') (hm : m ∉ S) : Book w' m f := by
  obtain ⟨es, clock, hb, rest⟩ := h.out
  exact ⟨es, clock, (k.block m h.lt hm).trans hb, rest⟩
theorem Book.new (w : World) : Book (w.alloc (.map #[] 0)) w.heap.size (fun _ _ => none) :=
  ⟨#[], 0, Array.getElem?_push_size, fun e he => (by simp at he), fun c l k h => (by cases h)⟩
set_option maxRecDepth 100000 in
theorem Book.find (h : Book w m f) {c l : Nat} (hc : c < 100000) (hl : l < 100000) :
    (Instr.lookup 128 (.map (some m)) (pc c l) true).run Tryz.prog w = .ok (match f c l with | some k => .tuple #[.int .i64 (k : Int), .bool true] | none => .tuple #[.int .i64 0, .bool false]) w := by
  obtain ⟨es, clock, hb, h1, h2⟩ := h.out
  obtain ⟨kl, hk⟩ := pc_key hc hl
  have hz : (zeroValue 3).run Tryz.prog w = .ok (.int .i64 0) w := by kernel_rfl
  have hes : ∀ e ∈ es.toList, ∃ l, keyOf Tryz.prog 142 e.key = some l := fun e he => by
    obtain ⟨c', l', k', hc', hl', e1, _⟩ := h1 e he
    rw [e1]; exact pc_key hc' hl'
  rcases piece_keyed.find w hk es.toList hes with ⟨f1, f2⟩ | ⟨j, e0, f1, f2, f3⟩
  · cases hf : f c l with
    | some k => obtain ⟨e, he, hke⟩ := h2 c l k hf; exact absurd hke (f2 e he)
    | none =>
      generalize (zeroValue 3 : Sem Value) = zv at hz
      simp [Instr.lookup, run_underlying Tryz.underlying128, MapKept.run_getObj_map hb, piece_keyed.check w _ hk, f1, hz, Result.andThen]
  · have hm := List.mem_of_getElem? f2
    obtain ⟨c', l', k', hc', hl', e1, e2, e3⟩ := h1 e0 hm
    obtain ⟨rfl, rfl⟩ := pc_inj (e1.symm.trans f3)
    rw [e3]
    simp [Instr.lookup, run_underlying Tryz.underlying128, MapKept.run_getObj_map hb, piece_keyed.check w _ hk, f1, Result.andThen, e2]
set_option maxRecDepth 100000 in
theorem Book.add (h : Book w m f) {c l k : Nat} (hc : c < 100000) (hl : l < 100000) (hn : f c l = none) :
    ∃ w', (Instr.mapUpdate 128 (.map (some m)) (pc c l) (.int .i64 (k : Int))).run Tryz.prog w = .ok () w' ∧ Book w' m (fun a b => if a = c ∧ b = l then some k else f a b) ∧ Kp [m] w w' := by
  obtain ⟨es, clock, hb, h1, h2⟩ := h.out
  obtain ⟨kl, hk⟩ := pc_key hc hl
  have hes : ∀ e ∈ es.toList, ∃ l, keyOf Tryz.prog 142 e.key = some l := fun e he => by
    obtain ⟨c', l', k', hc', hl', e1, _⟩ := h1 e he
    rw [e1]; exact pc_key hc' hl'
  have hm0 := h.lt
  rcases piece_keyed.find w hk es.toList hes with ⟨f1, f2⟩ | ⟨j, e0, f1, f2, f3⟩
  · refine ⟨ChangeMaps.setBlock w m (.map (es.push ⟨pc c l, .int .i64 (k : Int), clock⟩) (clock + 1)), ?_, ?_, ?_⟩
    · simp [Instr.mapUpdate, run_underlying Tryz.underlying128, MapKept.run_getObj_map hb, piece_keyed.check w false hk, f1, MapKept.run_setObj_map _ hb, Result.andThen, ChangeMaps.setBlock]
    · refine ⟨es.push ⟨pc c l, .int .i64 (k : Int), clock⟩, clock + 1, by simp [ChangeMaps.setBlock, hm0], ?_, ?_⟩
      · intro e he
        simp only [Array.toList_push, List.mem_append, List.mem_singleton] at he
        rcases he with he | rfl
        · obtain ⟨c', l', k', hc', hl', e1, e2, e3⟩ := h1 e he
          refine ⟨c', l', k', hc', hl', e1, e2, ?_⟩
          rw [if_neg (fun hh => ?_)]
          · exact e3
          · rw [hh.1, hh.2, hn] at e3; cases e3
        · exact ⟨c, l, k, hc, hl, rfl, rfl, by rw [if_pos ⟨rfl, rfl⟩]⟩
      · intro a b k' hk'
        by_cases hab : a = c ∧ b = l
        · obtain ⟨rfl, rfl⟩ := hab
          exact ⟨_, by simp only [Array.toList_push, List.mem_append, List.mem_singleton]; exact .inr rfl, rfl⟩
        · rw [if_neg hab] at hk'
          obtain ⟨e, he, h3⟩ := h2 a b k' hk'
          exact ⟨e, by simp only [Array.toList_push, List.mem_append]; exact .inl he, h3⟩
    · refine ⟨rfl, rfl, rfl, by simp [ChangeMaps.setBlock], fun j hj hs => ?_⟩
      simp only [List.mem_singleton] at hs
      simp [ChangeMaps.setBlock, Array.getElem?_setIfInBounds, Ne.symm hs]
  · have hm := List.mem_of_getElem? f2
    obtain ⟨c', l', k', hc', hl', e1, e2, e3⟩ := h1 e0 hm
    obtain ⟨rfl, rfl⟩ := pc_inj (e1.symm.trans f3)
    rw [e3] at hn; cases hn
end
end Go.Proofs.YtnadjlejlohgiaaGreatDoor.Mem

/- The program's reader takes a symbol. Conditions: a reader, a book of lengths that are ok. -/
namespace Go.Proofs.YtnadjlejlohgiaaGreatDoor.Wi
open Go.RowKit Go.Proofs.YtnadjlejlohgiaaGreatDoor.Mem Go.Proofs.YtnadjlejlohgiaaGreatDoor.Bt Go.Proofs.YtnadjlejlohgiaaGreatDoor.Cd Go.Proofs.YtnadjlejlohgiaaGreatDoor.De
set_option linter.unusedVariables false
set_option linter.unusedSimpArgs false
/-- What a reader that was at p (bad or not) has taken by a plain way of reading, and where it is now. -/
structure Ans {α : Type} (d : Dec α) (s : ByteArray) (p : Nat) (b : Bool) (x : α) (p' : Nat) (b' : Bool) : Prop where mk ::
  bad : b' = true → b = true ∨ d (rest s p) = none
  good : b' = false → b = false ∧ d (rest s p) = some (x, rest s p')
section
variable {α β : Type} {d : Dec α} {k : α → Dec β} {s : ByteArray} {p p1 p2 : Nat} {b b1 b2 : Bool} {x : α} {y : β}
theorem Ans.next (h : Ans d s p b x p1 b1) (h2 : Ans (k x) s p1 b1 y p2 b2) : Ans (next d k) s p b y p2 b2 := by
  refine ⟨fun e => ?_, fun e => ?_⟩
  · cases hb1 : b1 with
    | true => rcases h.bad hb1 with a | a
              · exact .inl a
              · exact .inr (next_none a)
    | false => obtain ⟨a1, a2⟩ := h.good hb1
               rcases h2.bad e with a | a
               · rw [hb1] at a; cases a
               · exact .inr (by rw [next_some a2]; exact a)
  · obtain ⟨c1, c2⟩ := h2.good e
    obtain ⟨a1, a2⟩ := h.good c1
    exact ⟨a1, by rw [next_some a2]; exact c2⟩
/-- It was bad already, or the way of reading fails: it is bad. -/
theorem Ans.out (h : Ans d s p b x p1 true) (d2 : Dec β) (hd : d (rest s p) = none → d2 (rest s p) = none) (y : β) (p2 : Nat) : Ans d2 s p b y p2 true :=
  ⟨fun _ => (h.bad rfl).imp id hd, fun e => by cases e⟩
theorem Ans.ret (x : α) (s : ByteArray) (p : Nat) (b : Bool) : Ans (De.ret x) s p b x p b := ⟨fun e => .inl e, fun e => ⟨e, rfl⟩⟩
theorem Ans.fail (s : ByteArray) (p p' : Nat) (b : Bool) (x : α) : Ans (De.bad : Dec α) s p b x p' true := ⟨fun _ => .inr rfl, fun e => by cases e⟩
theorem Ans.mono (h : Ans d s p b x p1 b1) (e : b = true) : b1 = true := by
  cases hb1 : b1 with
  | true => rfl
  | false => have := (h.good hb1).1; rw [e] at this; cases this
end
end Go.Proofs.YtnadjlejlohgiaaGreatDoor.Wi

/- Rows of bytes that are not nil. -/
namespace Go.Proofs.YtnadjlejlohgiaaGreatDoor.Wi
open Go.RowKit Go.Proofs.YtnadjlejlohgiaaGreatDoor.Mem
set_option linter.unusedVariables false
set_option linter.unusedSimpArgs false
/-- A slice that is not nil, of bytes at block r. -/
structure By (w : World) (r cap : Nat) (l : List Nat) : Prop where mk ::
  out : Bytes w r (.slice (some ⟨r, 0, none⟩) l.length cap) l
theorem By.lt {w : World} {r cap : Nat} {l : List Nat} (h : By w r cap l) : r < w.heap.size := by
  rcases h.out.own.2 with ⟨h1, _⟩ | ⟨g, c, cur, hv, _, hh, _⟩
  · cases h1
  · have : g = r := h.out.at_ g (by rw [hv]; rfl)
    subst this
    rcases Nat.lt_or_ge g w.heap.size with h | h
    · exact h
    · rw [Array.getElem?_eq_none h] at hh; cases hh
theorem By.cell {w : World} {r cap : Nat} {l : List Nat} (h : By w r cap l) {i : Nat} (hi : i < l.length) : w.cell? ⟨r, i, none⟩ = some (.int .u8 (l.getD i 0 : Nat)) := by
  obtain ⟨_, _, _, _, R⟩ := h.out.parts (by intro e; rw [e] at hi; simp at hi)
  exact R.cell (u8s_get hi)
theorem By.kp {S : List Nat} {w w' : World} {r cap : Nat} {l : List Nat} (h : By w r cap l) (k : Kp S w w') (hr : r ∉ S) : By w' r cap l := ⟨h.out.kp k hr⟩
theorem By.on {w w' : World} {r cap : Nat} {l : List Nat} (h : By w r cap l) (O : On w w') : By w' r cap l := h.kp (Kp.of [] O) (by simp)
end Go.Proofs.YtnadjlejlohgiaaGreatDoor.Wi

/- The program adds to bytes what a token tells that leads back. Conditions: a row of bytes, sizes. -/
namespace Go.Proofs.YtnadjlejlohgiaaGreatDoor.Wi
open Go.RowKit Go.Proofs.YtnadjlejlohgiaaGreatDoor.Mem Go.Proofs.YtnadjlejlohgiaaGreatDoor.Bt Go.Proofs.YtnadjlejlohgiaaGreatDoor.Lz
set_option linter.unusedVariables false
set_option linter.unusedSimpArgs false
def backOk (n L B : Nat) : Prop := 3 ≤ L ∧ L ≤ 60 ∧ 1 ≤ B ∧ B ≤ 250 ∧ B ≤ n
instance (n L B : Nat) : Decidable (backOk n L B) := by unfold backOk; infer_instance
/-- What a call on a row of bytes leaves: all but its block; the row may lie in new memory. -/
structure Mb (r : Nat) (w : World) (r' : Nat) (w' : World) : Prop where
  kp : Kp [r] w w'
  at_ : r' = r ∨ w.heap.size ≤ r'
theorem Mb.refl (r : Nat) (w : World) : Mb r w r w := ⟨Kp.refl _ _, .inl rfl⟩
theorem Mb.trans {r r1 r2 : Nat} {w w1 w2 : World} (h : Mb r w r1 w1) (k : Mb r1 w1 r2 w2) : Mb r w r2 w2 := by
  refine ⟨h.kp.trans k.kp (fun x hx => ?_), ?_⟩
  · simp only [List.mem_singleton] at hx ⊢
    rcases h.at_ with e | e <;> omega
  · have := h.kp.size
    rcases k.at_ with e | e
    · rw [e]; exact h.at_
    · right; omega
end Go.Proofs.YtnadjlejlohgiaaGreatDoor.Wi

/- The program's reader takes a part that is not packed. Conditions: a reader, a row of bytes. -/
namespace Go.Proofs.YtnadjlejlohgiaaGreatDoor.Wi
open Go.RowKit Go.Proofs.YtnadjlejlohgiaaGreatDoor.Mem Go.Proofs.YtnadjlejlohgiaaGreatDoor.Bt Go.Proofs.YtnadjlejlohgiaaGreatDoor.Cd Go.Proofs.YtnadjlejlohgiaaGreatDoor.De
set_option linter.unusedVariables false
set_option linter.unusedSimpArgs false
/-- What a reader has taken behind bytes; more than 300 of them count as nothing. -/
structure AnsO (d : Dec (List Nat)) (s : ByteArray) (p : Nat) (b : Bool) (l : List Nat) (p' : Nat) (b' : Bool) : Prop where mk ::
  bad : b' = true → b = true ∨ d (rest s p) = none
  good : b' = false → b = false ∧ (l.length ≤ 300 → d (rest s p) = some (l, rest s p')) ∧ (300 < l.length → d (rest s p) = none)
section
variable {α : Type} {d : Dec α} {k : α → Dec (List Nat)} {s : ByteArray} {p p1 p2 : Nat} {b b1 b2 : Bool} {x : α} {y : List Nat}
theorem AnsO.next (h : Ans d s p b x p1 b1) (h2 : AnsO (k x) s p1 b1 y p2 b2) : AnsO (next d k) s p b y p2 b2 := by
  refine ⟨fun e => ?_, fun e => ?_⟩
  · cases hb1 : b1 with
    | true => rcases h.bad hb1 with a | a
              · exact .inl a
              · exact .inr (next_none a)
    | false => obtain ⟨a1, a2⟩ := h.good hb1
               rcases h2.bad e with a | a
               · rw [hb1] at a; cases a
               · exact .inr (by rw [next_some a2]; exact a)
  · obtain ⟨c1, c2, c3⟩ := h2.good e
    obtain ⟨a1, a2⟩ := h.good c1
    exact ⟨a1, fun hl => by rw [next_some a2]; exact c2 hl, fun hl => by rw [next_some a2]; exact c3 hl⟩
theorem AnsO.fail (s : ByteArray) (p p' : Nat) (b : Bool) (l : List Nat) : AnsO (De.bad : Dec (List Nat)) s p b l p' true := ⟨fun _ => .inr rfl, fun e => by cases e⟩
theorem AnsO.was (d : Dec (List Nat)) (s : ByteArray) (p p' : Nat) (l : List Nat) : AnsO d s p true l p' true := ⟨fun _ => .inl rfl, fun e => by cases e⟩
theorem AnsO.any {d : Dec (List Nat)} (h : AnsO d s p b y p1 true) (y2 : List Nat) (p2 : Nat) : AnsO d s p b y2 p2 true := ⟨fun _ => h.bad rfl, fun e => by cases e⟩
end
theorem packN_length : ∀ (n : Nat) (bs : List Bool), (packN n bs).length = n
  | 0, _ => rfl
  | n + 1, bs => by rw [packN]; simp [packN_length n]
end Go.Proofs.YtnadjlejlohgiaaGreatDoor.Wi

/- Tokens of a text, in the reference: the plain ones. Conditions: sizes. -/
namespace Go.Proofs.YtnadjlejlohgiaaGreatDoor.Wi
open Go.RowKit Go.Proofs.YtnadjlejlohgiaaGreatDoor.Mem Go.Proofs.YtnadjlejlohgiaaGreatDoor.Lz
set_option linter.unusedVariables false
set_option linter.unusedSimpArgs false
theorem at_all (s : ByteArray) : ∀ i (h : i < s.size), (chars s)[i]? = some s[i].toNat := fun i h => by
  have := chars_at s h
  rw [List.getD_eq_getElem?_getD, List.getElem?_eq_getElem (by rw [chars_length]; exact h)] at this
  rw [List.getElem?_eq_getElem (by rw [chars_length]; exact h)]
  exact congrArg some this
set_option maxRecDepth 100000 in
set_option maxHeartbeats 1000000 in
theorem again_calls (s : ByteArray) (hs : s.size ≤ 300) (a k : Nat) (hk : 1 ≤ k) (hka : k ≤ a) (ha : a < s.size) (w : World) : Calls Tryz.prog 168 #[.string s, .int .i64 a, .int .i64 k] w (Tells w (.int .i64 (mlen (chars s) a k : Nat))) := by
  have htl : (chars s).length = s.size := chars_length s
  have hat := at_all s
  generalize chars s = t at *
  have HTL := Lib.hid htl
  have HAT := Lib.hid hat
  clear htl hat
  go_enter Tryz.func168, Tryz.ntmps168
  go_wp2_with fail
  go_loopw [7] (fun x wr => ∃ n : Nat, x = .int .i64 (n : Int) ∧ n ≤ 60 ∧ RowKit.Hid (n + run t (a + n) (a + n - k) (60 - n) = mlen t a k) ∧ On w wr) (fun x _ => 60 - (intOf x).toNat)
  case atStart => exact ⟨0, rfl, by omega, Lib.hid (by simp [mlen]), On.refl _⟩
  case round =>
    obtain ⟨n, rfl, hn, hrun, O3⟩ := hrel
    have q1 : IntKind.i64.wrap ((a : Int) + (n : Int)) = ((a + n : Nat) : Int) := by rw [IntKind.wrap_i64]; omega
    have q2 : IntKind.i64.wrap (((a + n : Nat) : Int) - (k : Int)) = ((a + n - k : Nat) : Int) := by rw [IntKind.wrap_i64]; omega
    have hq : a + n - k < a + n := by omega
    have hq2 : a + n ≤ 400 := by omega
    have hcont : n < 60 ∧ a + n < t.length ∧ t[a + n]? = t[a + n - k]? ∨ ¬ (n < 60 ∧ a + n < t.length ∧ t[a + n]? = t[a + n - k]?) := Classical.em _
    have hgo := run_step hrun.out hk hka
    have hend := run_stop hrun.out
    generalize hp : a + n = p at hcont hend q1 q2 hq hq2
    generalize hpq : p - k = q at hcont hend q2 hq
    rw [hp, hpq] at hgo
    have HP := Lib.hid hp
    have HPQ := Lib.hid hpq
    have HGO := Lib.hid hgo
    have HEND := Lib.hid hend
    clear hp hpq hgo hend hrun
    rcases hcont with hc | hc
    · have hx2 := Lib.hid (HGO.out hc)
      have hc1 : (n : Int) < 60 := by have := hc.1; omega
      have hps : p < s.size := by have := hc.2.1; rw [HTL.out] at this; exact this
      have hqs : q < s.size := by omega
      have hxy : s[p] = s[q] := by
        have := hc.2.2
        rw [HAT.out p hps, HAT.out q hqs] at this
        exact UInt8.toNat_inj.1 (Option.some.inj this)
      have hps' : (p : Int) < s.size := by omega
      have hqs' : (q : Int) < s.size := by omega
      have hb : (((s[p]).toNat : Int) == ((s[q]).toNat : Int)) = true := by rw [hxy]; simp
      clear hc hxy
      generalize hx : s[p] = x at *
      generalize hy : s[q] = y at *
      go_wp2_with fail
      go_quiet (fail)
      go_wp2_with fail
      exact ⟨⟨n + 1, by go_num, by omega, hx2, O3.drewN _⟩, by simp [intOf]; omega⟩
    · have hx2 := HEND.out hc
      have hstop : decide (p < s.size) = false ∨ (decide (p < s.size) = true ∧ decide ((n : Int) < 60) = false) ∨
          (decide ((n : Int) < 60) = true ∧ decide (p < s.size) = true ∧ decide (q < s.size) = true ∧ ∃ (hp : p < s.size) (hq : q < s.size), (((s[p]).toNat : Int) == ((s[q]).toNat : Int)) = false) := by
        by_cases h2 : p < s.size
        · by_cases h1 : n < 60
          · refine .inr (.inr ⟨by simp; omega, by simp; omega, by simp; omega, h2, by omega, ?_⟩)
            rw [beq_eq_false_iff_ne]
            intro e
            apply hc
            refine ⟨h1, by rw [HTL.out]; exact h2, ?_⟩
            rw [HAT.out p h2, HAT.out q (by omega)]
            congr 1; omega
          · exact .inr (.inl ⟨by simp; omega, by simp; omega⟩)
        · exact .inl (by simp; omega)
      have HX2 := Lib.hid hx2
      clear hc hx2
      rcases hstop with h | ⟨h1, h2⟩ | ⟨h1, h2, h3, hp, hq, h4⟩
      · go_wp2_with fail
        go_quiet (fail)
        go_wp2_with fail
        go_ret
        exact ⟨by rw [← HX2.out]; rfl, O3.drewN _⟩
      · go_wp2_with fail
        go_quiet (fail)
        go_wp2_with fail
        go_ret
        exact ⟨by rw [← HX2.out]; rfl, O3.drewN _⟩
      · generalize hx : s[p] = x at *
        generalize hy : s[q] = y at *
        go_wp2_with fail
        go_quiet (fail)
        go_wp2_with fail
        go_ret
        exact ⟨by rw [← HX2.out]; rfl, O3.drewN _⟩
theorem best_step (t : List Nat) (a j : Nat) : best t a (j + 1) = if (best t a j).1 < mlen t a (j + 1) then (mlen t a (j + 1), j + 1) else best t a j := rfl
set_option maxRecDepth 100000 in
set_option maxHeartbeats 2000000 in
theorem stoks_calls (s : ByteArray) (hs : s.size ≤ 300) (w : World) : Calls Tryz.prog 145 #[.string s] w (GivesT w (tokens (chars s))) := by
  have htl : (chars s).length = s.size := chars_length s
  have hat := at_all s
  have h0 : tokens (chars s) = [] ++ toks (chars s) ((chars s).length - 0) 0 := rfl
  have hag := fun a k h1 h2 h3 w => again_calls s hs a k h1 h2 h3 w
  generalize chars s = t at *
  have HTL := Lib.hid htl
  have HAT := Lib.hid hat
  have H0 := Lib.hid h0
  have HAG := Lib.hid hag
  clear htl hat h0 hag
  go_enter Tryz.func145, Tryz.ntmps145
  go_wp2_with fail
  go_loopw [3, 4] (fun v x wr => ∃ (a : Nat) (done : List Tok), x = .int .i64 (a : Int) ∧ a ≤ s.size ∧ done.length ≤ a ∧ RowKit.Hid (tokens t = done ++ toks t (t.length - a) a) ∧ Own w.heap.size wr 117 3 v done.length (tokCells done) ∧ On w wr) (fun _ x _ => s.size - (intOf x).toNat)
  case atStart => exact ⟨0, [], rfl, by omega, by simp, H0, Own.new w 117 3 #[] 0 (Nat.zero_le _) rfl (Nat.le_refl _), (On.refl w).alloc _⟩
  case round =>
    obtain ⟨a, done, rfl, ha, hd, hT, hown, O⟩ := hrel
    by_cases hlt : a < s.size
    · obtain ⟨wo, hwo⟩ : ∃ wo : World, wo = wr := ⟨_, rfl⟩
      subst hwo
      have hts := toks_step t a (by rw [HTL.out]; exact hlt)
      have hhe : held t a (min 250 a) = if 3 ≤ (best t a (min 250 a)).1 then ⟨0, ((best t a (min 250 a)).1 : Nat), ((best t a (min 250 a)).2 : Nat)⟩ else ⟨(t.getD a 0 : Nat), 0, 0⟩ := rfl
      have HTS := Lib.hid hts
      have HHE := Lib.hid hhe
      have hm1 : min 250 a ≤ 250 := by omega
      have hm2 : min 250 a ≤ a := by omega
      have hm3 : min 250 a = 250 ∨ min 250 a = a := by omega
      clear hts hhe
      generalize min 250 a = m at *
      go_wp2_with fail
      go_loopw [5, 6, 7] (fun l f x wr => ∃ j : Nat, x = .int .i64 ((j : Int) + 1) ∧ j ≤ m ∧ l = .int .i64 ((best t a j).1 : Nat) ∧ f = .int .i64 ((best t a j).2 : Nat) ∧ On wo wr) (fun _ _ x _ => 251 - (intOf x).toNat)
      case atStart => exact ⟨0, rfl, by omega, rfl, rfl, On.refl _⟩
      case round =>
        obtain ⟨j, rfl, hj, rfl, rfl, O2⟩ := hrel
        have hle := best_le_60 t a j
        by_cases hjl : j < m
        · have hj1 : (j : Int) + 1 ≤ 250 := by omega
          have hj2 : (j : Int) + 1 ≤ a := by omega
          have hst := best_step t a j
          have hml := mlen_le t a (j + 1)
          have hc := HAG.out a (j + 1) (by omega) (by omega) hlt
          have HC := Lib.hid hc
          have HST := Lib.hid hst
          clear hst hc
          generalize best t a j = bj at *
          obtain ⟨L, F⟩ := bj
          simp only at hle HST
          generalize mlen t a (j + 1) = M at *
          go_wp2_with fail
          have hc2 := HC.out wr
          rw [show (((j + 1 : Nat) : Int)) = (j : Int) + 1 from by omega] at hc2
          refine hc2.mono ?_
          rintro e w3 ⟨rfl, O3⟩
          by_cases hLM : L < M
          · have hLM' : (L : Int) < M := by omega
            go_wp2_with fail
            refine ⟨⟨j + 1, by go_num, by omega, ?_, ?_, O2.call O3⟩, by simp [intOf]; omega⟩
            · rw [HST.out, if_pos hLM]
            · rw [HST.out, if_pos hLM]; go_num
          · have hLM' : ¬ (L : Int) < M := by omega
            go_wp2_with fail
            refine ⟨⟨j + 1, by go_num, by omega, ?_, ?_, O2.call O3⟩, by simp [intOf]; omega⟩
            · rw [HST.out, if_neg hLM]
            · rw [HST.out, if_neg hLM]
        · obtain rfl : j = m := by omega
          have hstop : decide ((j : Int) + 1 ≤ 250) = false ∨ (decide ((j : Int) + 1 ≤ 250) = true ∧ decide ((j : Int) + 1 ≤ (a : Int)) = false) := by
            by_cases h : (j : Int) + 1 ≤ 250
            · exact .inr ⟨by simpa using h, by simp; omega⟩
            · exact .inl (by simpa using h)
          have hown2 := hown.on O2
          have O4 := O.call O2
          obtain ⟨i0, hi, hz0, hz1, hz2⟩ := info_parts tokinfo
          have hdl : done.length ≤ 300 := by omega
          have hHT := HTS.out
          rw [HHE.out] at hHT
          have HHT := Lib.hid hHT
          clear hHT hown
          generalize best t a j = bj at *
          obtain ⟨L, F⟩ := bj
          simp only at hle HHT
          obtain ⟨b, hbb⟩ : ∃ b, s[a] = b := ⟨_, rfl⟩
          have hbt : t.getD a 0 = b.toNat := by rw [List.getD_eq_getElem?_getD, HAT.out a hlt, hbb]; rfl
          have HBT := Lib.hid hbt
          have hb256 : (b.toNat : Int) < 256 := by have := b.toNat_lt; omega
          clear hbt
          by_cases h3 : 3 ≤ L
          · have h3' : ¬ (L : Int) < 3 := by omega
            have hHT := HHT.out
            rw [if_pos h3] at hHT
            simp only [Int.toNat_natCast] at hHT
            rw [show max L 1 = L from by omega] at hHT
            have HHT2 := Lib.hid hHT
            clear HHT hHT
            rcases hstop with h | ⟨h, h'⟩
            all_goals
              go_wp2_with (at_builtin; go_must (refine wpList_app rfl _ _ 114 rfl w i0 (.agg #[.int .i64 0, .int .i64 0, .int .i64 0]) 24 3 Tryz.underlying114 hi hz0 hz1 hz2 rfl (by decide) rfl _ _ _ rfl hown2 O4 rfl (by simp [Value.oneCell']) (by unfold maxLen; omega) (by omega) ?_); intro v' w2 hown' O' hk)
              go_roundw
              case rel =>
                obtain ⟨e1, e2⟩ := HHT2.out
                refine ⟨a + L, done ++ [⟨0, (L : Int), (F : Int)⟩], by go_num, by rw [HTL.out] at e2; exact e2, by rw [List.length_append, List.length_singleton]; omega, Lib.hid (by rw [hT.out, e1, List.append_assoc]; rfl), ?_, O'⟩
                rw [List.length_append, List.length_singleton, tokCells_snoc]
                exact hown'
              case measure => simp [intOf]; omega
          · have h3' : (L : Int) < 3 := by omega
            have hHT := HHT.out
            rw [if_neg h3] at hHT
            simp only at hHT
            rw [show max (Int.toNat 0) 1 = 1 from rfl, HBT.out] at hHT
            have HHT2 := Lib.hid hHT
            clear HHT hHT
            rcases hstop with h | ⟨h, h'⟩
            all_goals
              go_wp2_with (at_builtin; go_must (refine wpList_app rfl _ _ 114 rfl w i0 (.agg #[.int .i64 0, .int .i64 0, .int .i64 0]) 24 3 Tryz.underlying114 hi hz0 hz1 hz2 rfl (by decide) rfl _ _ _ rfl hown2 O4 rfl (by simp [Value.oneCell']) (by unfold maxLen; omega) (by omega) ?_); intro v' w2 hown' O' hk)
              go_roundw
              case rel =>
                obtain ⟨e1, e2⟩ := HHT2.out
                refine ⟨a + 1, done ++ [⟨(b.toNat : Int), 0, 0⟩], by go_num, by rw [HTL.out] at e2; exact e2, by rw [List.length_append, List.length_singleton]; omega, Lib.hid (by rw [hT.out, e1, List.append_assoc]; rfl), ?_, O'⟩
                rw [List.length_append, List.length_singleton, tokCells_snoc]
                exact hown'
              case measure => simp [intOf]; omega
    · obtain rfl : a = s.size := by omega
      have hT2 := hT.out
      rw [toks_end t _ (by rw [HTL.out]; exact Nat.le_refl _), List.append_nil] at hT2
      have HT2 := Lib.hid hT2
      obtain ⟨g, cap, rfl, hg, R, hn1, hcap, hlen⟩ := hown.parts
      clear hT2
      go_wp2_with fail
      go_ret
      refine ⟨g, cap, ?_, ?_, ?_, hcap, hg, O⟩
      · rw [HT2.out]; rfl
      · rw [HT2.out]; exact R
      · rw [HT2.out]; exact hn1
end Go.Proofs.YtnadjlejlohgiaaGreatDoor.Wi

/- What StorePut does, in both programs: the plain packing of a text as it is. Conditions: sizes. -/
namespace Go.Proofs.YtnadjlejlohgiaaGreatDoor.Wi
open Go.RowKit Go.Proofs.YtnadjlejlohgiaaGreatDoor.Mem Go.Proofs.YtnadjlejlohgiaaGreatDoor.Bt
set_option linter.unusedVariables false
set_option linter.unusedSimpArgs false
def storeB (s : ByteArray) : ByteArray := if s.size ≤ 300 then strB (En.store (chars s)) else ⟨#[]⟩
theorem iw_new (w : World) : IW (w.alloc (.cells #[.slice none 0 0, .int .i64 0] 111)) w.heap.size w.heap.size [] :=
  ⟨.slice none 0 0, Blk.new w _ _, ⟨World.ownsRow_nil _ _ _ _, fun k hk => by simp [Value.ownBlock] at hk⟩, .inr rfl⟩
theorem sw_new (w : World) : SW (w.alloc (.cells #[.slice none 0 0, .int .i64 0, .int .i64 0] 153)) w.heap.size w.heap.size [] :=
  ⟨.slice none 0 0, Blk.new w _ _, ⟨World.ownsRow_nil _ _ _ _, fun k hk => by simp [Value.ownBlock] at hk⟩, .inr rfl⟩
/-- What a writer that a call made itself leaves. -/
theorem Mv.on {g r r' : Nat} {a w w' : World} (h : Mv g r w r' w') (O : On a w) (hg : a.heap.size ≤ g) (hr : a.heap.size ≤ r) : On a w' ∧ a.heap.size ≤ r' := by
  refine ⟨h.kp.on O (fun x hx => ?_), ?_⟩
  · simp only [List.mem_cons, List.not_mem_nil, or_false] at hx
    rcases hx with rfl | rfl <;> assumption
  · have := O.size
    rcases h.at_ with e | e <;> omega
theorem IW.text {w : World} {g r : Nat} {bs : List Bool} (h : IW w g r bs) : ∃ v, w.cell? ⟨g, 0, none⟩ = some v ∧ (convert 28 9 v).run Tryz.prog w = .ok (.string (strB (pack bs))) w := by
  obtain ⟨v, hb, hy, _⟩ := h.out
  exact ⟨v, (hb.cell 0).trans rfl, bytes_conv hy⟩
theorem SW.text {w : World} {g r : Nat} {bs : List Bool} (h : SW w g r bs) (h8 : bs.length % 8 = 0) : ∃ v, w.cell? ⟨g, 0, none⟩ = some v ∧ (convert 28 9 v).run Tryz.prog w = .ok (.string (strB (pack bs))) w := by
  obtain ⟨v, hb, hy, _⟩ := h.out
  rw [show 8 * (bs.length / 8) = bs.length from by omega, List.take_length] at hy
  exact ⟨v, (hb.cell 0).trans rfl, bytes_conv hy⟩
theorem store_text (s : ByteArray) : strB (pack (En.storeBits s.size)) ++ s = strB (En.store (chars s)) := by
  rw [strB_app]; unfold En.store; rw [chars_length]
theorem store_bits8 (n : Nat) : (En.storeBits n).length % 8 = 0 := by rw [En.storeBits_length]
set_option maxRecDepth 100000 in
theorem istore_calls (s : ByteArray) (w : World) :
    Calls Tryz.prog 76 #[.string s] w (Tells w (.string (storeB s))) := by
  by_cases h : s.size ≤ 300
  · have h' : (s.size : Int) ≤ 300 := by omega
    have HR : RowKit.Hid (storeB s = strB (pack (En.storeBits s.size)) ++ s) := Lib.hid (by unfold storeB; rw [if_pos h, store_text])
    go_enter Tryz.func76, Tryz.ntmps76
    go_wp2_with fail
    refine (put_calls _ _ [] 1 3 _ (iw_new w) (by omega) (by simp) (by omega)).mono ?_
    rintro e w1 ⟨r1, rfl, hw1, M1⟩
    obtain ⟨O1, hr1⟩ := M1.on ((On.refl w).alloc _) (Nat.le_refl _) (Nat.le_refl _)
    go_wp2_with fail
    refine (even_calls _ _ _ w1 hw1 (by simp [bitsOf])).mono ?_
    rintro e w2 ⟨rfl, hw2, M2⟩
    obtain ⟨O2, hr2⟩ := M2.on O1 (Nat.le_refl _) hr1
    go_wp2_with fail
    refine (put_calls _ _ _ s.size 16 w2 hw2 (by omega) (by rw [pad_length]; simp [bitsOf]) (by omega)).mono ?_
    rintro e w3 ⟨r3, rfl, hw3, M3⟩
    obtain ⟨O3, hr3⟩ := M3.on O2 (Nat.le_refl _) hr2
    go_wp2_with fail
    rw [show (65535 : Int) - (s.size : Int) = ((65535 - s.size : Nat) : Int) from by omega]
    refine (put_calls _ _ _ (65535 - s.size) 16 w3 hw3 (by omega) (by rw [List.length_append, pad_length, bits_length]; simp [bitsOf]) (by omega)).mono ?_
    rintro e w4 ⟨r4, rfl, hw4, M4⟩
    obtain ⟨O4, hr4⟩ := M4.on O3 (Nat.le_refl _) hr3
    have hw5 : IW w4 w.heap.size r4 (En.storeBits s.size) := hw4
    obtain ⟨v, c0, hconv⟩ := hw5.text
    have hcat : ¬ (9223372036854775807 < (strB (pack (En.storeBits s.size))).size + s.size) := by rw [strB_size, pack_length, En.storeBits_length]; omega
    clear hw1 hw2 hw3 hw4 hw5
    go_wp2_with fail
    go_ret
    exact ⟨by rw [HR.out]; rfl, O4⟩
  · have h' : (300 : Int) < s.size := by omega
    have HR : RowKit.Hid (storeB s = ⟨#[]⟩) := Lib.hid (by unfold storeB; rw [if_neg h])
    go_enter Tryz.func76, Tryz.ntmps76
    go_wp2_with fail
    go_ret
    exact ⟨by rw [HR.out]; rfl, On.refl _⟩
set_option maxRecDepth 100000 in
theorem sstore_calls (s : ByteArray) (w : World) (h : s.size ≤ 300) :
    Calls Tryz.prog 132 #[.string s] w (Tells w (.string (strB (En.store (chars s))))) := by
  have h' : (s.size : Int) ≤ 300 := by omega
  have HR : RowKit.Hid (strB (En.store (chars s)) = strB (pack (En.storeBits s.size)) ++ s) := Lib.hid (by rw [store_text])
  go_enter Tryz.func132, Tryz.ntmps132
  go_wp2_with fail
  refine (sput_calls _ _ [] 1 1 _ (sw_new w) (by omega) (by simp) (by omega)).mono ?_
  rintro e w1 ⟨r1, rfl, hw1, M1⟩
  obtain ⟨O1, hr1⟩ := M1.on ((On.refl w).alloc _) (Nat.le_refl _) (Nat.le_refl _)
  go_wp2_with fail
  refine (sput_calls _ _ _ 0 2 w1 hw1 (by omega) (by simp [bitsOf]) (by omega)).mono ?_
  rintro e w2 ⟨r2, rfl, hw2, M2⟩
  obtain ⟨O2, hr2⟩ := M2.on O1 (Nat.le_refl _) hr1
  have hw2' : SW w2 w.heap.size r2 (bitsOf 1 3) := hw2
  go_wp2_with fail
  refine (whole_calls _ _ _ w2 hw2' (by simp [bitsOf])).mono ?_
  rintro e w3 ⟨r3, rfl, hw3, M3⟩
  obtain ⟨O3, hr3⟩ := M3.on O2 (Nat.le_refl _) hr2
  go_wp2_with fail
  refine (sput_calls _ _ _ s.size 16 w3 hw3 (by omega) (by rw [pad_length]; simp [bitsOf]) (by omega)).mono ?_
  rintro e w4 ⟨r4, rfl, hw4, M4⟩
  obtain ⟨O4, hr4⟩ := M4.on O3 (Nat.le_refl _) hr3
  go_wp2_with fail
  rw [show (65535 : Int) - (s.size : Int) = ((65535 - s.size : Nat) : Int) from by omega]
  refine (sput_calls _ _ _ (65535 - s.size) 16 w4 hw4 (by omega) (by rw [List.length_append, pad_length, bits_length]; simp [bitsOf]) (by omega)).mono ?_
  rintro e w5 ⟨r5, rfl, hw5, M5⟩
  obtain ⟨O5, hr5⟩ := M5.on O4 (Nat.le_refl _) hr4
  have hw6 : SW w5 w.heap.size r5 (En.storeBits s.size) := hw5
  obtain ⟨v, c0, hconv⟩ := hw6.text (store_bits8 _)
  have hcat : ¬ (9223372036854775807 < (strB (pack (En.storeBits s.size))).size + s.size) := by rw [strB_size, pack_length, En.storeBits_length]; omega
  clear hw1 hw2 hw3 hw4 hw5 hw6 hw2'
  go_wp2_with fail
  go_ret
  exact ⟨by rw [HR.out]; rfl, O5⟩
end Go.Proofs.YtnadjlejlohgiaaGreatDoor.Wi

