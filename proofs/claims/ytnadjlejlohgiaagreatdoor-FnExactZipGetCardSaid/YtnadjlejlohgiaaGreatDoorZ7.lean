/- Own texts joined: Mp. -/
import Derived.Test.YtnadjlejlohgiaaGreatDoorChecked
import Derived.DeepKeys4
import Derived.Maps.Keyed
import Derived.Maps.Own
import Derived.Lib.Hide
import Derived.Test.YtnadjlejlohgiaaGreatDoorZ5
/- A map from pieces of bits to numbers: how it is filled and looked up. -/
namespace Go.Proofs.YtnadjlejlohgiaaGreatDoor.Mem
open Go.RowKit Go.Maps
set_option linter.unusedVariables false
set_option linter.unusedSimpArgs false
theorem laid_out : laidOutB Tryz.prog = true := by kernel_rfl
theorem piece_wide : (match Tryz.prog.underlying 142 with | some (.array _ _) | some (.struct _) => true | _ => false) = true := by rw [Tryz.underlying142]
theorem piece_row : (142 : TypeId) < Tryz.prog.types.size := of_decide_eq_true (by kernel_rfl)
set_option maxRecDepth 100000 in
theorem piece_law : WideMaps.KeyLaw Tryz.prog 142 := deep_law_laid laid_out (m := 2) (by omega) piece_row (by kernel_rfl) piece_wide
theorem piece_keyed : Keyed Tryz.prog 142 := Keyed.of_law piece_law
def pc (c l : Nat) : Value := .agg #[.int .i64 (c : Int), .int .i64 (l : Int)]
theorem pc_inj {a b c d : Nat} (h : pc a b = pc c d) : a = c ∧ b = d := by
  unfold pc at h
  simp only [Value.agg.injEq, Array.mk.injEq, List.cons.injEq, Value.int.injEq, true_and, and_true] at h
  omega
theorem pc_key {c l : Nat} (hc : c < 100000) (hl : l < 100000) : ∃ kl, keyOf Tryz.prog 142 (pc c l) = some kl := by
  have w1 : (Lit.int .i64 (c : Int)).wf = true := by simp [Lit.wf, IntKind.min, IntKind.max, IntKind.signed, IntKind.bits]; omega
  have w2 : (Lit.int .i64 (l : Int)).wf = true := by simp [Lit.wf, IntKind.min, IntKind.max, IntKind.signed, IntKind.bits]; omega
  have hk : Tryz.prog.keyType 142 = true := by kernel_rfl
  have hcell : Tryz.prog.cellsOf 142 = 2 := by kernel_rfl
  have hci : Tryz.prog.cellsOf 3 = 1 := by kernel_rfl
  have hf : (pc c l).formed Tryz.prog 142 = true := by simp [pc, Value.formed, Tryz.underlying142, hcell]
  have hr := piece_row
  unfold keyOf
  rw [Tryz.underlying142]
  obtain ⟨m, hm⟩ : ∃ m, Tryz.prog.types.size = m + 1 := Nat.exists_eq_succ_of_ne_zero (Nat.ne_of_gt (Nat.zero_lt_of_lt hr))
  rw [hm]
  simp [hk, hf, Program.keyLits, Tryz.underlying142, Tryz.underlying3, hcell, hci, pc, Value.cells, w1, w2]
  exact hf
/-- The map at block m holds f: for pieces that f knows, their number. -/
structure Book (w : World) (m : Nat) (f : Nat → Nat → Option Nat) : Prop where mk :: (out : ∃ es clock, w.heap[m]? = some (.map es clock) ∧
  (∀ e ∈ es.toList, ∃ c l k : Nat, c < 100000 ∧ l < 100000 ∧ e.key = pc c l ∧ e.val = .int .i64 (k : Int) ∧ f c l = some k) ∧ ∀ c l k, f c l = some k → ∃ e ∈ es.toList, e.key = pc c l)
section
variable {w w' : World} {m : Nat} {f : Nat → Nat → Option Nat}
theorem Book.lt (h : Book w m f) : m < w.heap.size := by
  obtain ⟨es, clock, hb, _⟩ := h.out
  rcases Nat.lt_or_ge m w.heap.size with h | h
  · exact h
  · rw [Array.getElem?_eq_none h] at hb; cases hb
theorem Book.kp {S : List Nat} (h : Book w m f) (k : Kp S w w') (hm : m ∉ S) : Book w' m f := by
  obtain ⟨es, clock, hb, rest⟩ := h.out
  exact ⟨es, clock, (k.block m h.lt hm).trans hb, rest⟩
theorem Book.new (w : World) : Book (w.alloc (.map #[] 0)) w.heap.size (fun _ _ => none) :=
  ⟨#[], 0, Array.getElem?_push_size, fun e he => (by simp at he), fun c l k h => (by cases h)⟩
set_option maxRecDepth 100000 in
theorem Book.find (h : Book w m f) {c l : Nat} (hc : c < 100000) (hl : l < 100000) :
    (Instr.lookup 128 (.map (some m)) (pc c l) true).run Tryz.prog w = .ok (match f c l with | some k => .tuple #[.int .i64 (k : Int), .bool true] | none => .tuple #[.int .i64 0, .bool false]) w := by
  obtain ⟨es, clock, hb, h1, h2⟩ := h.out
  obtain ⟨kl, hk⟩ := pc_key hc hl
  have hz : (zeroValue 3).run Tryz.prog w = .ok (.int .i64 0) w := by kernel_rfl
  have hes : ∀ e ∈ es.toList, ∃ l, keyOf Tryz.prog 142 e.key = some l := fun e he => by
    obtain ⟨c', l', k', hc', hl', e1, _⟩ := h1 e he
    rw [e1]; exact pc_key hc' hl'
  rcases piece_keyed.find w hk es.toList hes with ⟨f1, f2⟩ | ⟨j, e0, f1, f2, f3⟩
  · cases hf : f c l with
    | some k => obtain ⟨e, he, hke⟩ := h2 c l k hf; exact absurd hke (f2 e he)
    | none =>
      generalize (zeroValue 3 : Sem Value) = zv at hz
      simp [Instr.lookup, run_underlying Tryz.underlying128, MapKept.run_getObj_map hb, piece_keyed.check w _ hk, f1, hz, Result.andThen]
  · have hm := List.mem_of_getElem? f2
    obtain ⟨c', l', k', hc', hl', e1, e2, e3⟩ := h1 e0 hm
    obtain ⟨rfl, rfl⟩ := pc_inj (e1.symm.trans f3)
    rw [e3]
    simp [Instr.lookup, run_underlying Tryz.underlying128, MapKept.run_getObj_map hb, piece_keyed.check w _ hk, f1, Result.andThen, e2]
set_option maxRecDepth 100000 in
theorem Book.add (h : Book w m f) {c l k : Nat} (hc : c < 100000) (hl : l < 100000) (hn : f c l = none) :
    ∃ w', (Instr.mapUpdate 128 (.map (some m)) (pc c l) (.int .i64 (k : Int))).run Tryz.prog w = .ok () w' ∧ Book w' m (fun a b => if a = c ∧ b = l then some k else f a b) ∧ Kp [m] w w' := by
  obtain ⟨es, clock, hb, h1, h2⟩ := h.out
  obtain ⟨kl, hk⟩ := pc_key hc hl
  have hes : ∀ e ∈ es.toList, ∃ l, keyOf Tryz.prog 142 e.key = some l := fun e he => by
    obtain ⟨c', l', k', hc', hl', e1, _⟩ := h1 e he
    rw [e1]; exact pc_key hc' hl'
  have hm0 := h.lt
  rcases piece_keyed.find w hk es.toList hes with ⟨f1, f2⟩ | ⟨j, e0, f1, f2, f3⟩
  · refine ⟨ChangeMaps.setBlock w m (.map (es.push ⟨pc c l, .int .i64 (k : Int), clock⟩) (clock + 1)), ?_, ?_, ?_⟩
    · simp [Instr.mapUpdate, run_underlying Tryz.underlying128, MapKept.run_getObj_map hb, piece_keyed.check w false hk, f1, MapKept.run_setObj_map _ hb, Result.andThen, ChangeMaps.setBlock]
    · refine ⟨es.push ⟨pc c l, .int .i64 (k : Int), clock⟩, clock + 1, by simp [ChangeMaps.setBlock, hm0], ?_, ?_⟩
      · intro e he
        simp only [Array.toList_push, List.mem_append, List.mem_singleton] at he
        rcases he with he | rfl
        · obtain ⟨c', l', k', hc', hl', e1, e2, e3⟩ := h1 e he
          refine ⟨c', l', k', hc', hl', e1, e2, ?_⟩
          rw [if_neg (fun hh => ?_)]
          · exact e3
          · rw [hh.1, hh.2, hn] at e3; cases e3
        · exact ⟨c, l, k, hc, hl, rfl, rfl, by rw [if_pos ⟨rfl, rfl⟩]⟩
      · intro a b k' hk'
        by_cases hab : a = c ∧ b = l
        · obtain ⟨rfl, rfl⟩ := hab
          exact ⟨_, by simp only [Array.toList_push, List.mem_append, List.mem_singleton]; exact .inr rfl, rfl⟩
        · rw [if_neg hab] at hk'
          obtain ⟨e, he, h3⟩ := h2 a b k' hk'
          exact ⟨e, by simp only [Array.toList_push, List.mem_append]; exact .inl he, h3⟩
    · refine ⟨rfl, rfl, rfl, by simp [ChangeMaps.setBlock], fun j hj hs => ?_⟩
      simp only [List.mem_singleton] at hs
      simp [ChangeMaps.setBlock, Array.getElem?_setIfInBounds, Ne.symm hs]
  · have hm := List.mem_of_getElem? f2
    obtain ⟨c', l', k', hc', hl', e1, e2, e3⟩ := h1 e0 hm
    obtain ⟨rfl, rfl⟩ := pc_inj (e1.symm.trans f3)
    rw [e3] at hn; cases hn
end
end Go.Proofs.YtnadjlejlohgiaaGreatDoor.Mem

