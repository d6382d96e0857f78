/- A row of files that reads as data. -/
import Derived.Test.YtpbfhflggicpiaaDoorOpE
import Derived.Test.YtpbfhflggicpiaaDoorEz2
import Derived.Deep.MidRow
namespace Go.Proofs.YtpbfhflggicpiaaDoor.Nm
open Go.Joins Go.ChangeShapes Go.WideShapes Go.RowKit Go.Deep
set_option linter.unusedVariables false
theorem list_of {α : Type} (P : Nat → α → Prop) : ∀ n, (∀ i, i < n → ∃ f, P i f) → ∃ L : List α, L.length = n ∧ ∀ i (h : i < L.length), P i L[i]
  | 0, _ => ⟨[], rfl, fun i h => by simp at h⟩
  | n + 1, h => by
    obtain ⟨L, hl, hL⟩ := list_of P n fun i hi => h i (by omega)
    obtain ⟨f, hf⟩ := h n (by omega)
    refine ⟨L ++ [f], by simp [hl], fun i hi => ?_⟩
    by_cases e : i < L.length
    · rw [List.getElem_append_left e]; exact hL i e
    · simp at hi
      obtain rfl : i = n := by omega
      rw [List.getElem_append_right (by omega)]
      simpa [hl] using hf
theorem fcells_back {L : List Fi} {k : Nat} {u : Value} (h : (fcells L)[k]? = some u) : ∃ hi : k / 8 < L.length, (fcell L[k / 8])[k % 8]? = some u := by
  have hk : k < (fcells L).length := (List.getElem?_eq_some_iff.1 h).1
  rw [fcells_length] at hk
  have hi : k / 8 < L.length := by omega
  refine ⟨hi, ?_⟩
  have h8 : k % 8 < (fcell L[k / 8]).length := Nat.mod_lt _ (by decide)
  have e := fcells_get L hi (j := k % 8) (List.getElem?_eq_getElem h8)
  rw [show k / 8 * 8 + k % 8 = k from by omega, h] at e
  rw [List.getElem?_eq_getElem h8]
  exact e.symm
section
variable {H : Type} {enc : TypeId × Value → H} {w : World} {base : Nat} {spare : Nat → Bool} {held : Bool}
theorem open_entries {r : Reach} {b0 : Nat} {v : Value} {d : DataW H} {p : List MemPlace} (hv : Value.okWide Tryd.prog w r b0 38 v) (h : DataW.Trod enc Tryd.prog w base spare held 38 v d p) :
    ∃ (sp : Option Addr) (cap : Nat) (L : List Fi), v = .slice sp L.length cap ∧ Fs w sp L ∧ Szs L maxLen ∧ L.length ≤ maxLen := by
  obtain ⟨a0, len0, cap0, rfl⟩ := okWide_slice Tryd.underlying38 hv
  obtain ⟨fuel, hf⟩ := h
  rcases open_slice Tryd.underlying38 hf with ⟨hcs, _⟩ | ⟨a, len, cap, m, n, D, Pl, hcs, _, hl, hm, hmm, _, hi⟩
  · simp [Value.cells] at hcs
    obtain ⟨rfl, rfl, rfl⟩ := hcs
    exact ⟨none, 0, [], rfl, ⟨Or.inl rfl⟩, ⟨fun f hf => by simp at hf⟩, by simp⟩
  · simp [Value.cells] at hcs
    obtain ⟨rfl, rfl, rfl⟩ := hcs
    have hlm : len0 ≤ m := by rw [hmm]; split <;> omega
    obtain ⟨L, hL, hP⟩ := list_of (fun i (f : Fi) => (∀ j u, (fcell f)[j]? = some u → w.cell? ((a.add (i * 8)).add j) = some u) ∧ f.nm.size ≤ maxLen ∧ f.tx.size ≤ maxLen) len0 fun i hil => by
      obtain ⟨cs, hc, ht⟩ := hi i (by omega)
      rw [cells_entry] at hc
      obtain ⟨_, hlen, hat⟩ := World.cells?_some hc
      obtain ⟨nm, y, mo, d', h', mi, s, tx, rfl, hn, hx⟩ := cells_are ht
      refine ⟨⟨nm, y, mo, d', h', mi, s, tx⟩, fun j u hu => ?_, hn, hx⟩
      have hj : j < 8 := (List.getElem?_eq_some_iff.1 hu).1
      rw [hat j hj]; exact hu
    subst hL
    refine ⟨some a, cap0, L, rfl, ⟨?_⟩, ⟨fun f hf => ?_⟩, by omega⟩
    · rcases L with _ | ⟨f0, L⟩
      · exact Or.inl rfl
      · right
        have h0 := (hP 0 (by simp)).1 0 (.string f0.nm) rfl
        have hsp : a.spot = none := by
          have e : (a.add (0 * 8)).add 0 = a := rfl
          rw [e] at h0
          unfold World.cell? at h0
          split at h0
          · split at h0
            · cases h0
            · rename_i hq; simpa using hq
          · cases h0
        obtain ⟨g, o, sp⟩ := a
        have : sp = none := hsp
        subst this
        refine ⟨g, o, rfl, ⟨fun k u hu => ?_⟩⟩
        obtain ⟨hi', hu'⟩ := fcells_back hu
        have := (hP _ hi').1 _ _ hu'
        rwa [Addr.add_mid, Addr.add_mid, show o + k / 8 * 8 + k % 8 = o + k from by omega] at this
    · obtain ⟨i, hi', rfl⟩ := List.getElem_of_mem hf
      exact (hP i hi').2
end
end Go.Proofs.YtpbfhflggicpiaaDoor.Nm
