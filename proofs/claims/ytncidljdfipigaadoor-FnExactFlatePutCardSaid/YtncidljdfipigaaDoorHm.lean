/- Rows of trees (how often, the least symbol, the symbols) in memory; the greatest of numbers; the least of trees. Conditions: rows that are only read. -/
import Derived.Test.YtncidljdfipigaaDoorHf
import Derived.Test.YtncidljdfipigaaDoorNu
import Derived.Test.YtncidljdfipigaaDoorWi
import Derived.Deep.QuietTactic
import Derived.BigQuiet
namespace Go.Proofs.YtncidljdfipigaaDoor.Wi
open Go.RowKit Go.Proofs.YtncidljdfipigaaDoor.Mem Go.Proofs.YtncidljdfipigaaDoor.Hf
set_option linter.unusedVariables false
set_option linter.unusedSimpArgs false
/-- A tree, and where its symbols lie: a block, a capacity. -/
abbrev Tr := It × Nat × Nat
def tcell (x : Tr) : List Value := [.int .i64 (x.1.c : Int), .int .i64 (x.1.f : Int), .slice (some ⟨x.2.1, 0, none⟩) x.1.s.length x.2.2]
def tcells (X : List Tr) : List Value := X.flatMap tcell
theorem tcells_length (X : List Tr) : (tcells X).length = 3 * X.length := by
  induction X with
  | nil => rfl
  | cons x X ih =>
    have e : tcells (x :: X) = tcell x ++ tcells X := rfl
    rw [e, List.length_append, ih, List.length_cons]
    show 3 + _ = _
    omega
theorem tcells_append (X Y : List Tr) : tcells (X ++ Y) = tcells X ++ tcells Y := by unfold tcells; rw [List.flatMap_append]
theorem tcells_get : ∀ (X : List Tr) {i : Nat} (h : i < X.length), (tcells X)[3 * i]? = some (.int .i64 (X[i].1.c : Int)) ∧ (tcells X)[3 * i + 1]? = some (.int .i64 (X[i].1.f : Int)) ∧ (tcells X)[3 * i + 2]? = some (.slice (some ⟨X[i].2.1, 0, none⟩) X[i].1.s.length X[i].2.2)
  | x :: X, 0, _ => ⟨rfl, rfl, rfl⟩
  | x :: X, i + 1, h => by
    have e : tcells (x :: X) = tcell x ++ tcells X := rfl
    have h3 : (tcell x).length = 3 := rfl
    obtain ⟨a, b, c⟩ := tcells_get X (i := i) (by simpa using h)
    rw [e]
    refine ⟨?_, ?_, ?_⟩
    · rw [List.getElem?_append_right (by rw [h3]; omega), h3, show 3 * (i + 1) - 3 = 3 * i from by omega]; exact a
    · rw [List.getElem?_append_right (by rw [h3]; omega), h3, show 3 * (i + 1) + 1 - 3 = 3 * i + 1 from by omega]; exact b
    · rw [List.getElem?_append_right (by rw [h3]; omega), h3, show 3 * (i + 1) + 2 - 3 = 3 * i + 2 from by omega]; exact c
theorem tcells_take : ∀ (X : List Tr) (k : Nat), tcells (X.take k) = (tcells X).take (3 * k)
  | _, 0 => by simp [tcells]
  | [], k + 1 => by simp [tcells]
  | x :: X, k + 1 => by
    have e : tcells (x :: X) = tcell x ++ tcells X := rfl
    have e2 : tcells ((x :: X).take (k + 1)) = tcell x ++ tcells (X.take k) := rfl
    have h3 : (tcell x).length = 3 := rfl
    rw [e, e2, tcells_take X k, List.take_append, h3, show 3 * (k + 1) - 3 = 3 * k from by omega, List.take_of_length_le (l := tcell x) (by rw [h3]; omega)]
theorem tcells_drop : ∀ (X : List Tr) (k : Nat), tcells (X.drop k) = (tcells X).drop (3 * k)
  | _, 0 => by simp
  | [], k + 1 => by simp [tcells]
  | x :: X, k + 1 => by
    have e : tcells (x :: X) = tcell x ++ tcells X := rfl
    have h3 : (tcell x).length = 3 := rfl
    rw [List.drop_succ_cons, tcells_drop X k, e, List.drop_append, h3, show 3 * (k + 1) - 3 = 3 * k from by omega, show List.drop (3 * (k + 1)) (tcell x) = [] from List.drop_eq_nil_of_le (by rw [h3]; omega), List.nil_append]
theorem tcells_erase (X : List Tr) (k : Nat) : tcells (X.eraseIdx k) = (tcells X).take (3 * k) ++ (tcells X).drop (3 * (k + 1)) := by
  rw [List.eraseIdx_eq_take_drop_succ, tcells_append, tcells_take, tcells_drop]
set_option maxRecDepth 100000 in
theorem smost_calls (lens : List Nat) (g o n cap : Nat) (w : World) (hl : RowO w g o 3 (i64s lens)) (hn : lens.length = n) (hn2 : n ≤ 1000) (hnc : n ≤ cap) (hx : ∀ x ∈ lens, x ≤ 1000000000) :
    Calls Tryd.prog 127 #[.slice (some ⟨g, o, none⟩) n cap] w fun e w' => e = .returned (.int .i64 (top lens : Nat)) ∧ On w w' := by
  have HN := Lib.hid hn
  clear hn
  go_enter Tryd.func127, Tryd.ntmps127
  go_wp2_with fail
  go_loopw [3, 4] (fun a x wr => ∃ (k m : Nat), x = .int .i64 (k : Int) ∧ k ≤ n ∧ a = .int .i64 (m : Int) ∧ RowKit.Hid (m = topTo lens k) ∧ On w wr) (fun _ x _ => n - (intOf x).toNat)
  case atStart => exact ⟨0, 0, rfl, by omega, rfl, Lib.hid rfl, On.refl _⟩
  case round =>
    obtain ⟨k, m, rfl, hk, rfl, HM, O⟩ := hrel
    by_cases hlt : k < n
    · have hkl : k < lens.length := by rw [HN.out]; exact hlt
      have c0 := (hl.on O).cell (i64s_get hkl)
      have hmem : lens.getD k 0 ∈ lens := by rw [List.getD_eq_getElem?_getD, List.getElem?_eq_getElem hkl]; exact List.getElem_mem _
      have hx1 := hx _ hmem
      have HT := Lib.hid (show topTo lens (k + 1) = max m (lens.getD k 0) from by rw [topTo, HM.out])
      clear hmem
      generalize lens.getD k 0 = x at *
      have hk2 : (k : Int) < n := by omega
      by_cases h0 : m < x
      · have h0' : (m : Int) < x := by omega
        go_wp2_with fail
        go_roundw
        case rel => exact ⟨k + 1, x, by go_num, by omega, rfl, Lib.hid (by rw [HT.out]; omega), O⟩
        case measure => simp [intOf]; omega
      · have h0' : ¬ (m : Int) < x := by omega
        go_wp2_with fail
        go_roundw
        case rel => exact ⟨k + 1, m, by go_num, by omega, rfl, Lib.hid (by rw [HT.out]; omega), O⟩
        case measure => simp [intOf]; omega
    · obtain rfl : k = n := by omega
      go_wp2_with fail
      go_ret
      exact ⟨by unfold top; rw [HN.out, ← HM.out]; rfl, O⟩
set_option maxRecDepth 100000 in
set_option maxHeartbeats 1000000 in
theorem sleast_calls (X : List Tr) (g n cap : Nat) (w : World) (hX : Row w g 133 (tcells X)) (hn : X.length = n) (hn1 : 1 ≤ n) (hn2 : n ≤ 1000) (hnc : n ≤ cap) (hc : ∀ x ∈ X, x.1.c ≤ 100000000 ∧ x.1.f ≤ 1000) :
    Calls Tryd.prog 147 #[.slice (some ⟨g, 0, none⟩) n cap] w fun e w' => e = .returned (.int .i64 (least (X.map (·.1)) : Nat)) ∧ On w w' := by
  have HN := Lib.hid hn
  clear hn
  have hget : ∀ i, i < n → ∃ c f, c ≤ 100000000 ∧ f ≤ 1000 ∧ ((X.map (·.1)).getD i dflt).c = c ∧ ((X.map (·.1)).getD i dflt).f = f ∧ (∀ w', On w w' → w'.cell? ⟨g, i * 3, none⟩ = some (.int .i64 (c : Int)) ∧ w'.cell? ⟨g, i * 3 + 1, none⟩ = some (.int .i64 (f : Int))) := by
    intro i hi
    have hiX : i < X.length := by rw [HN.out]; exact hi
    obtain ⟨a, b, _⟩ := tcells_get X hiX
    have hm := hc X[i] (List.getElem_mem hiX)
    have e : (X.map (·.1)).getD i dflt = X[i].1 := by rw [List.getD_eq_getElem?_getD, List.getElem?_map, List.getElem?_eq_getElem hiX]; rfl
    refine ⟨X[i].1.c, X[i].1.f, hm.1, hm.2, by rw [e], by rw [e], fun w' O => ⟨?_, ?_⟩⟩
    · rw [Nat.mul_comm i 3]; exact (hX.on O).cell a
    · rw [Nat.mul_comm i 3]; exact (hX.on O).cell b
  have HGET := Lib.hid hget
  clear hget hc hX
  obtain ⟨L, hL⟩ : ∃ L, X.map (·.1) = L := ⟨_, rfl⟩
  have hLn : L.length = n := by rw [← hL, List.length_map, HN.out]
  rw [hL] at HGET ⊢
  have HLN := Lib.hid hLn
  clear hL hLn HN
  go_enter Tryd.func147, Tryd.ntmps147
  go_wp2_with fail
  go_loopw [3, 4] (fun a x wr => ∃ (k m : Nat), x = .int .i64 (k : Int) ∧ 1 ≤ k ∧ k ≤ n ∧ a = .int .i64 (m : Int) ∧ m < n ∧ RowKit.Hid (m = leastTo L (k - 1)) ∧ On w wr) (fun _ x _ => n - (intOf x).toNat)
  case atStart => exact ⟨1, 0, rfl, by omega, hn1, rfl, by omega, Lib.hid rfl, On.refl _⟩
  case round =>
    obtain ⟨k, m, rfl, hk1, hk, rfl, hm, HM, O⟩ := hrel
    by_cases hlt : k < n
    · obtain ⟨ck, fk, hck, hfk, eck, efk, cellk⟩ := HGET.out k hlt
      obtain ⟨cm, fm, hcm, hfm, ecm, efm, cellm⟩ := HGET.out m hm
      have HT := Lib.hid (show leastTo L k = if less (L.getD k dflt) (L.getD m dflt) then k else m from by
        obtain ⟨j, rfl⟩ : ∃ j, k = j + 1 := ⟨k - 1, by omega⟩
        rw [leastTo, HM.out]; rfl)
      have HLS := Lib.hid (show less (L.getD k dflt) (L.getD m dflt) = decide (ck < cm ∨ ck = cm ∧ fk < fm) from by unfold less; rw [eck, efk, ecm, efm])
      clear eck efk ecm efm
      have CK := fun nq => cellk (wr.drewN nq) (O.drewN nq)
      have CM := fun nq => cellm (wr.drewN nq) (O.drewN nq)
      obtain ⟨k0, k1⟩ := cellk wr O
      obtain ⟨m0, m1⟩ := cellm wr O
      clear CK CM cellk cellm
      have hk2 : (k : Int) < n := by omega
      have hm2 : (m : Int) < n := by omega
      by_cases h1 : ck < cm
      · have h1' : decide ((ck : Int) < (cm : Int)) = true := by simp; omega
        have h1'' : (ck : Int) < (cm : Int) := by omega
        go_wp2_with fail
        go_quiet (fail)
        go_wp2_with fail
        go_roundw
        case rel => exact ⟨k + 1, k, by go_num, by omega, by omega, rfl, by omega, Lib.hid (by rw [show k + 1 - 1 = k from by omega, HT.out, HLS.out, if_pos (by simp; omega)]), O.drewN _⟩
        case measure => simp [intOf]; omega
      · have h1' : decide ((ck : Int) < (cm : Int)) = false := by simp; omega
        have h1n : decide (ck < cm) = false := by simp; omega
        by_cases h2 : ck = cm
        · subst h2
          have h2' : ((ck : Int) == (ck : Int)) = true := by simp
          by_cases h3 : fk < fm
          · have h3' : decide ((fk : Int) < (fm : Int)) = true := by simp; omega
            have h3'' : (fk : Int) < (fm : Int) := by omega
            go_wp2_with fail
            go_quiet (fail)
            go_wp2_with fail
            go_roundw
            case rel => exact ⟨k + 1, k, by go_num, by omega, by omega, rfl, by omega, Lib.hid (by rw [show k + 1 - 1 = k from by omega, HT.out, HLS.out, if_pos (by simp; omega)]), O.drewN _⟩
            case measure => simp [intOf]; omega
          · have h3' : decide ((fk : Int) < (fm : Int)) = false := by simp; omega
            have h3n : decide (fk < fm) = false := by simp; omega
            go_wp2_with fail
            go_quiet (fail)
            go_wp2_with fail
            go_roundw
            case rel => exact ⟨k + 1, m, by go_num, by omega, by omega, rfl, by omega, Lib.hid (by rw [show k + 1 - 1 = k from by omega, HT.out, HLS.out, if_neg (by simp; omega)]), O.drewN _⟩
            case measure => simp [intOf]; omega
        · have h2' : ((ck : Int) == (cm : Int)) = false := by simp; omega
          go_wp2_with fail
          go_quiet (fail)
          go_wp2_with fail
          go_roundw
          case rel => exact ⟨k + 1, m, by go_num, by omega, by omega, rfl, by omega, Lib.hid (by rw [show k + 1 - 1 = k from by omega, HT.out, HLS.out, if_neg (by simp; omega)]), O.drewN _⟩
          case measure => simp [intOf]; omega
    · obtain rfl : k = n := by omega
      go_wp2_with fail
      go_ret
      exact ⟨by unfold least; rw [HLN.out, ← HM.out]; rfl, O⟩
end Go.Proofs.YtncidljdfipigaaDoor.Wi
