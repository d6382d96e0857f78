/- Own texts joined: Tk, Wy, Hm, Hl. -/
import Derived.Deep.RegionHeld3
import Derived.WalkKit
import Derived.Deep.QuietTactic
import Derived.BigQuiet
import Derived.Deep.AppendLies
import Derived.Deep.DeepCutAuto
import Derived.BigRegion
import Derived.Test.YtnadjlejlohgiaaGreatDoorW2
import Derived.Test.YtnadjlejlohgiaaGreatDoorW3
/- Short forms of the moves through a region that draws its order. Nothing of the program stands here. -/
namespace Go.Proofs.YtnadjlejlohgiaaGreatDoor.Tk
open Go.RowKit
section
variable {P : Program} {ops : Array Oper} {Q : Exit → Act → World → Prop} {md : Region.Mode} {S : World → Prop}
/-- Operation i is taken first; it yields v. -/
theorem tk (i : Nat) (v : Value) {oi : Oper} {fuel : Nat} {listed : Array Bool} {a : Act} {w : World} (hi : ops[i]? = some oi) (hy : YieldsIf P ops S oi v a)
    (h : wpAnyH P md ops Q S fuel (listed.setIfInBounds i true) (a.put oi.dst v) w) (hS : S w := by assumption) (hs : Region.noSelect ops = true := by kernel_rfl) (hf : Region.free md ops listed i = true := by kernel_rfl)
    (hr : (Region.ready md ops listed).contains i = true := by kernel_rfl) (hQ : ∀ c a w, Q (.panic c) (a.put oi.dst v) w → Q (.panic c) a w := by exact fun _ _ _ h => h) : wpAnyH P md ops Q S (fuel + 1) listed a w :=
  wpAnyH_take hi hs hf hr hQ hy hS h
/-- One operation alone may come up. -/
theorem rd (i : Nat) {o : Oper} {fuel : Nat} {listed : Array Bool} {a : Act} {w : World} (ho : ops[i]? = some o)
    (h : ∀ K' : Act → World → Prop, Shut (∀ a w, S w → (S w → wpAnyH P md ops Q S fuel (listed.setIfInBounds i true) a w) → K' a w) → if Region.wanted o (yielded ops a.tmps) = true then Oper.wp P o a w K' Q else K' (a.put o.dst undef) w)
    (hr : Region.ready md ops listed = [i] := by kernel_rfl) : wpAnyH P md ops Q S (fuel + 1) listed a w :=
  wpAnyH_ready hr (by simp) (AllReadyH.cons ho h AllReadyH.nil)
end
theorem s3 : (∀ {α : Type} {l : List α} {i : Nat} {a : α}, l.toArray.setIfInBounds i a = (l.set i a).toArray) ∧ (∀ {α : Type} {x a : α} {l : List α}, (x :: l).set 0 a = a :: l) ∧ (∀ {α : Type} {x a : α} {l : List α} {n : Nat}, (x :: l).set (n + 1) a = x :: l.set n a) :=
  ⟨List.setIfInBounds_toArray .., List.set_cons_zero, List.set_cons_succ⟩
theorem s6 : ((∀ {α : Type} {l : List α} {i : Nat} {a : α}, l.toArray.setIfInBounds i a = (l.set i a).toArray) ∧ (∀ {α : Type} {x a : α} {l : List α}, (x :: l).set 0 a = a :: l) ∧ (∀ {α : Type} {x a : α} {l : List α} {n : Nat}, (x :: l).set (n + 1) a = x :: l.set n a)) ∧
    (∀ {α : Type} {l : List α} {i : Nat} {h : i < l.toArray.size}, l.toArray[i] = l[i]'(by simpa using h)) ∧ (∀ {α : Type} {a : α} {l : List α} {h : 0 < (a :: l).length}, (a :: l)[0] = a) ∧ (∀ {α : Type} {a : α} {l : List α} {i : Nat} {h : i + 1 < (a :: l).length}, (a :: l)[i + 1] = l[i]'(by simpa using h)) :=
  ⟨s3, List.getElem_toArray .., List.getElem_cons_zero .., List.getElem_cons_succ ..⟩
end Go.Proofs.YtnadjlejlohgiaaGreatDoor.Tk

/- A region that draws its order: what holds of all later worlds may be made stronger. Nothing of the program stands here. -/
namespace Go.Proofs.YtnadjlejlohgiaaGreatDoor.Wi
open Go.RowKit
set_option linter.unusedVariables false
set_option linter.unusedSimpArgs false
theorem wpAnyH_strong {P : Program} {md : Region.Mode} {ops : Array Oper} {Q : Exit → Act → World → Prop} {S S' : World → Prop} (h : ∀ w, S' w → S w) : ∀ {fuel : Nat} {listed : Array Bool} {a : Act} {w : World}, wpAnyH P md ops Q S' fuel listed a w → wpAnyH P md ops Q S fuel listed a w := by
  intro fuel
  induction fuel with
  | zero => intro _ _ _ H; exact H
  | succ f ih => intro listed a w H; exact ⟨H.1, fun i hi => wpOp_mono (fun a' w' h' => ⟨h _ h'.1, ih h'.2⟩) (H.2 i hi)⟩
end Go.Proofs.YtnadjlejlohgiaaGreatDoor.Wi

/- Rows of trees (how often, the least symbol, the symbols) in memory; the greatest of numbers; the least of trees. Conditions: rows that are only read. -/
namespace Go.Proofs.YtnadjlejlohgiaaGreatDoor.Wi
open Go.RowKit Go.Proofs.YtnadjlejlohgiaaGreatDoor.Mem Go.Proofs.YtnadjlejlohgiaaGreatDoor.Hf
set_option linter.unusedVariables false
set_option linter.unusedSimpArgs false
/-- A tree, and where its symbols lie: a block, a capacity. -/
abbrev Tr := It × Nat × Nat
def tcell (x : Tr) : List Value := [.int .i64 (x.1.c : Int), .int .i64 (x.1.f : Int), .slice (some ⟨x.2.1, 0, none⟩) x.1.s.length x.2.2]
def tcells (X : List Tr) : List Value := X.flatMap tcell
theorem tcells_length (X : List Tr) : (tcells X).length = 3 * X.length := by
  induction X with
  | nil => rfl
  | cons x X ih =>
    have e : tcells (x :: X) = tcell x ++ tcells X := rfl
    rw [e, List.length_append, ih, List.length_cons]
    show 3 + _ = _
    omega
theorem tcells_append (X Y : List Tr) : tcells (X ++ Y) = tcells X ++ tcells Y := by unfold tcells; rw [List.flatMap_append]
theorem tcells_get : ∀ (X : List Tr) {i : Nat} (h : i < X.length), (tcells X)[3 * i]? = some (.int .i64 (X[i].1.c : Int)) ∧ (tcells X)[3 * i + 1]? = some (.int .i64 (X[i].1.f : Int)) ∧ (tcells X)[3 * i + 2]? = some (.slice (some ⟨X[i].2.1, 0, none⟩) X[i].1.s.length X[i].2.2)
  | x :: X, 0, _ => ⟨rfl, rfl, rfl⟩
  | x :: X, i + 1, h => by
    have e : tcells (x :: X) = tcell x ++ tcells X := rfl
    have h3 : (tcell x).length = 3 := rfl
    obtain ⟨a, b, c⟩ := tcells_get X (i := i) (by simpa using h)
    rw [e]
    refine ⟨?_, ?_, ?_⟩
    · rw [List.getElem?_append_right (by rw [h3]; omega), h3, show 3 * (i + 1) - 3 = 3 * i from by omega]; exact a
    · rw [List.getElem?_append_right (by rw [h3]; omega), h3, show 3 * (i + 1) + 1 - 3 = 3 * i + 1 from by omega]; exact b
    · rw [List.getElem?_append_right (by rw [h3]; omega), h3, show 3 * (i + 1) + 2 - 3 = 3 * i + 2 from by omega]; exact c
theorem tcells_take : ∀ (X : List Tr) (k : Nat), tcells (X.take k) = (tcells X).take (3 * k)
  | _, 0 => by simp [tcells]
  | [], k + 1 => by simp [tcells]
  | x :: X, k + 1 => by
    have e : tcells (x :: X) = tcell x ++ tcells X := rfl
    have e2 : tcells ((x :: X).take (k + 1)) = tcell x ++ tcells (X.take k) := rfl
    have h3 : (tcell x).length = 3 := rfl
    rw [e, e2, tcells_take X k, List.take_append, h3, show 3 * (k + 1) - 3 = 3 * k from by omega, List.take_of_length_le (l := tcell x) (by rw [h3]; omega)]
theorem tcells_drop : ∀ (X : List Tr) (k : Nat), tcells (X.drop k) = (tcells X).drop (3 * k)
  | _, 0 => by simp
  | [], k + 1 => by simp [tcells]
  | x :: X, k + 1 => by
    have e : tcells (x :: X) = tcell x ++ tcells X := rfl
    have h3 : (tcell x).length = 3 := rfl
    rw [List.drop_succ_cons, tcells_drop X k, e, List.drop_append, h3, show 3 * (k + 1) - 3 = 3 * k from by omega, show List.drop (3 * (k + 1)) (tcell x) = [] from List.drop_eq_nil_of_le (by rw [h3]; omega), List.nil_append]
theorem tcells_erase (X : List Tr) (k : Nat) : tcells (X.eraseIdx k) = (tcells X).take (3 * k) ++ (tcells X).drop (3 * (k + 1)) := by
  rw [List.eraseIdx_eq_take_drop_succ, tcells_append, tcells_take, tcells_drop]
set_option maxRecDepth 100000 in
theorem smost_calls (lens : List Nat) (g o n cap : Nat) (w : World) (hl : RowO w g o 3 (i64s lens)) (hn : lens.length = n) (hn2 : n ≤ 1000) (hnc : n ≤ cap) (hx : ∀ x ∈ lens, x ≤ 1000000000) :
    Calls Tryz.prog 171 #[.slice (some ⟨g, o, none⟩) n cap] w fun e w' => e = .returned (.int .i64 (top lens : Nat)) ∧ On w w' := by
  have HN := Lib.hid hn
  clear hn
  go_enter Tryz.func171, Tryz.ntmps171
  go_wp2_with fail
  go_loopw [3, 4] (fun a x wr => ∃ (k m : Nat), x = .int .i64 (k : Int) ∧ k ≤ n ∧ a = .int .i64 (m : Int) ∧ RowKit.Hid (m = topTo lens k) ∧ On w wr) (fun _ x _ => n - (intOf x).toNat)
  case atStart => exact ⟨0, 0, rfl, by omega, rfl, Lib.hid rfl, On.refl _⟩
  case round =>
    obtain ⟨k, m, rfl, hk, rfl, HM, O⟩ := hrel
    by_cases hlt : k < n
    · have hkl : k < lens.length := by rw [HN.out]; exact hlt
      have c0 := (hl.on O).cell (i64s_get hkl)
      have hmem : lens.getD k 0 ∈ lens := by rw [List.getD_eq_getElem?_getD, List.getElem?_eq_getElem hkl]; exact List.getElem_mem _
      have hx1 := hx _ hmem
      have HT := Lib.hid (show topTo lens (k + 1) = max m (lens.getD k 0) from by rw [topTo, HM.out])
      clear hmem
      generalize lens.getD k 0 = x at *
      have hk2 : (k : Int) < n := by omega
      by_cases h0 : m < x
      · have h0' : (m : Int) < x := by omega
        go_wp2_with fail
        go_roundw
        case rel => exact ⟨k + 1, x, by go_num, by omega, rfl, Lib.hid (by rw [HT.out]; omega), O⟩
        case measure => simp [intOf]; omega
      · have h0' : ¬ (m : Int) < x := by omega
        go_wp2_with fail
        go_roundw
        case rel => exact ⟨k + 1, m, by go_num, by omega, rfl, Lib.hid (by rw [HT.out]; omega), O⟩
        case measure => simp [intOf]; omega
    · obtain rfl : k = n := by omega
      go_wp2_with fail
      go_ret
      exact ⟨by unfold top; rw [HN.out, ← HM.out]; rfl, O⟩
set_option maxRecDepth 100000 in
set_option maxHeartbeats 1000000 in
theorem sleast_calls (X : List Tr) (g n cap : Nat) (w : World) (hX : Row w g 166 (tcells X)) (hn : X.length = n) (hn1 : 1 ≤ n) (hn2 : n ≤ 1000) (hnc : n ≤ cap) (hc : ∀ x ∈ X, x.1.c ≤ 100000000 ∧ x.1.f ≤ 1000) :
    Calls Tryz.prog 183 #[.slice (some ⟨g, 0, none⟩) n cap] w fun e w' => e = .returned (.int .i64 (least (X.map (·.1)) : Nat)) ∧ On w w' := by
  have HN := Lib.hid hn
  clear hn
  have hget : ∀ i, i < n → ∃ c f, c ≤ 100000000 ∧ f ≤ 1000 ∧ ((X.map (·.1)).getD i dflt).c = c ∧ ((X.map (·.1)).getD i dflt).f = f ∧ (∀ w', On w w' → w'.cell? ⟨g, i * 3, none⟩ = some (.int .i64 (c : Int)) ∧ w'.cell? ⟨g, i * 3 + 1, none⟩ = some (.int .i64 (f : Int))) := by
    intro i hi
    have hiX : i < X.length := by rw [HN.out]; exact hi
    obtain ⟨a, b, _⟩ := tcells_get X hiX
    have hm := hc X[i] (List.getElem_mem hiX)
    have e : (X.map (·.1)).getD i dflt = X[i].1 := by rw [List.getD_eq_getElem?_getD, List.getElem?_map, List.getElem?_eq_getElem hiX]; rfl
    refine ⟨X[i].1.c, X[i].1.f, hm.1, hm.2, by rw [e], by rw [e], fun w' O => ⟨?_, ?_⟩⟩
    · rw [Nat.mul_comm i 3]; exact (hX.on O).cell a
    · rw [Nat.mul_comm i 3]; exact (hX.on O).cell b
  have HGET := Lib.hid hget
  clear hget hc hX
  obtain ⟨L, hL⟩ : ∃ L, X.map (·.1) = L := ⟨_, rfl⟩
  have hLn : L.length = n := by rw [← hL, List.length_map, HN.out]
  rw [hL] at HGET ⊢
  have HLN := Lib.hid hLn
  clear hL hLn HN
  go_enter Tryz.func183, Tryz.ntmps183
  go_wp2_with fail
  go_loopw [3, 4] (fun a x wr => ∃ (k m : Nat), x = .int .i64 (k : Int) ∧ 1 ≤ k ∧ k ≤ n ∧ a = .int .i64 (m : Int) ∧ m < n ∧ RowKit.Hid (m = leastTo L (k - 1)) ∧ On w wr) (fun _ x _ => n - (intOf x).toNat)
  case atStart => exact ⟨1, 0, rfl, by omega, hn1, rfl, by omega, Lib.hid rfl, On.refl _⟩
  case round =>
    obtain ⟨k, m, rfl, hk1, hk, rfl, hm, HM, O⟩ := hrel
    by_cases hlt : k < n
    · obtain ⟨ck, fk, hck, hfk, eck, efk, cellk⟩ := HGET.out k hlt
      obtain ⟨cm, fm, hcm, hfm, ecm, efm, cellm⟩ := HGET.out m hm
      have HT := Lib.hid (show leastTo L k = if less (L.getD k dflt) (L.getD m dflt) then k else m from by
        obtain ⟨j, rfl⟩ : ∃ j, k = j + 1 := ⟨k - 1, by omega⟩
        rw [leastTo, HM.out]; rfl)
      have HLS := Lib.hid (show less (L.getD k dflt) (L.getD m dflt) = decide (ck < cm ∨ ck = cm ∧ fk < fm) from by unfold less; rw [eck, efk, ecm, efm])
      clear eck efk ecm efm
      have CK := fun nq => cellk (wr.drewN nq) (O.drewN nq)
      have CM := fun nq => cellm (wr.drewN nq) (O.drewN nq)
      obtain ⟨k0, k1⟩ := cellk wr O
      obtain ⟨m0, m1⟩ := cellm wr O
      clear CK CM cellk cellm
      have hk2 : (k : Int) < n := by omega
      have hm2 : (m : Int) < n := by omega
      by_cases h1 : ck < cm
      · have h1' : decide ((ck : Int) < (cm : Int)) = true := by simp; omega
        have h1'' : (ck : Int) < (cm : Int) := by omega
        go_wp2_with fail
        go_quiet (fail)
        go_wp2_with fail
        go_roundw
        case rel => exact ⟨k + 1, k, by go_num, by omega, by omega, rfl, by omega, Lib.hid (by rw [show k + 1 - 1 = k from by omega, HT.out, HLS.out, if_pos (by simp; omega)]), O.drewN _⟩
        case measure => simp [intOf]; omega
      · have h1' : decide ((ck : Int) < (cm : Int)) = false := by simp; omega
        have h1n : decide (ck < cm) = false := by simp; omega
        by_cases h2 : ck = cm
        · subst h2
          have h2' : ((ck : Int) == (ck : Int)) = true := by simp
          by_cases h3 : fk < fm
          · have h3' : decide ((fk : Int) < (fm : Int)) = true := by simp; omega
            have h3'' : (fk : Int) < (fm : Int) := by omega
            go_wp2_with fail
            go_quiet (fail)
            go_wp2_with fail
            go_roundw
            case rel => exact ⟨k + 1, k, by go_num, by omega, by omega, rfl, by omega, Lib.hid (by rw [show k + 1 - 1 = k from by omega, HT.out, HLS.out, if_pos (by simp; omega)]), O.drewN _⟩
            case measure => simp [intOf]; omega
          · have h3' : decide ((fk : Int) < (fm : Int)) = false := by simp; omega
            have h3n : decide (fk < fm) = false := by simp; omega
            go_wp2_with fail
            go_quiet (fail)
            go_wp2_with fail
            go_roundw
            case rel => exact ⟨k + 1, m, by go_num, by omega, by omega, rfl, by omega, Lib.hid (by rw [show k + 1 - 1 = k from by omega, HT.out, HLS.out, if_neg (by simp; omega)]), O.drewN _⟩
            case measure => simp [intOf]; omega
        · have h2' : ((ck : Int) == (cm : Int)) = false := by simp; omega
          go_wp2_with fail
          go_quiet (fail)
          go_wp2_with fail
          go_roundw
          case rel => exact ⟨k + 1, m, by go_num, by omega, by omega, rfl, by omega, Lib.hid (by rw [show k + 1 - 1 = k from by omega, HT.out, HLS.out, if_neg (by simp; omega)]), O.drewN _⟩
          case measure => simp [intOf]; omega
    · obtain rfl : k = n := by omega
      go_wp2_with fail
      go_ret
      exact ⟨by unfold least; rw [HLN.out, ← HM.out]; rfl, O⟩
end Go.Proofs.YtnadjlejlohgiaaGreatDoor.Wi

/- A row of trees without one of them. Conditions: a row that is only read. -/
namespace Go.Proofs.YtnadjlejlohgiaaGreatDoor.Wi
open Go.RowKit Go.Proofs.YtnadjlejlohgiaaGreatDoor.Mem Go.Proofs.YtnadjlejlohgiaaGreatDoor.Hf
set_option linter.unusedVariables false
set_option linter.unusedSimpArgs false
/-- append of any many elements onto a row of the call's own, at a step of a region that draws its order. -/
theorem step_append_any {P : Program} {ops : Array Oper} {o : Oper} {a : Act} {K : Act → World → Prop} {Q : Exit → Act → World → Prop} {E : Prop} {w : World} (hgd : o.guard = none) (s x : Operand) (t : TypeId)
    (ho : o.op = .call { callee := .builtin .append, args := #[s, x], argTypes := #[t, t] })
    (base : Nat) (e : TypeId) (i : TypeInfo) (z : Value) (size bytes : Nat) (ht : P.underlying t = some (.slice e)) (hi : P.info? e = some i) (hz : i.zero = some z)
    (hsize : i.size = size) (hby : i.bytes = bytes) (hzs : z.cells.size = size) (hsz : 0 < size)
    (v : Value) (n : Nat) (xs : List Value) (hs : a.eval s = v) (hown : w.ownsRow base e size v n xs)
    (ad : Addr) (m c : Nat) (news : List Value) (hx : a.eval x = .slice (some ad) m c) (hl : news.length = m * size) (hnews : ∀ j u, news[j]? = some u → w.cell? (ad.add j) = some u) (h1 : ∀ u ∈ news, u.oneCell' = true)
    (h63 : n + m ≤ maxLen) (hbytes : (n + m) * bytes ≤ 140737488355328) (hbase : base ≤ w.heap.size)
    (h : ∀ v' w', w'.ownsRow base e size v' (n + m) (xs ++ news) → w.grownBy w' v.ownBlock → (v' = .slice none 0 0 ↔ v = .slice none 0 0 ∧ m = 0) → (v'.ownBlock = v.ownBlock ∨ v'.ownBlock = some w.heap.size) → K (a.put o.dst v') w') :
    if Region.wanted o (yielded ops a.tmps) = true then Oper.wp P o a w K Q else E := by
  have hw : Region.wanted o (yielded ops a.tmps) = true := by simp [Region.wanted, hgd]
  rw [if_pos hw]
  obtain ⟨v', w', hr, h2, h3, h4, h5⟩ := run_append_own_at (P := P) w base t o.type e i z size bytes ht hi hz hsize hby hzs hsz v n xs hown ad m c news hl hnews h1 h63 hbytes hbase
  unfold Oper.wp execOp
  simp only [ho, resolve, invoke, builtin, Sem.run_bind, Sem.run_pure, Result.andThen_ok, List.map_toArray, List.map_cons, List.map_nil, hs, hx, hr]
  exact h v' w' h2 h3 h4 h5
theorem tcells_one (X : List Tr) {u : Value} (hu : u ∈ tcells X) : u.oneCell' = true := by
  unfold tcells at hu
  obtain ⟨x, _, hx⟩ := List.mem_flatMap.1 hu
  simp [tcell] at hx
  rcases hx with rfl | rfl | rfl <;> rfl
theorem tree_info : ∃ i, Tryz.prog.info? 166 = some i ∧ ∃ z, i.zero = some z ∧ i.size = 3 ∧ ∃ b, i.bytes = b ∧ z.cells.size = 3 ∧ b ≤ 1000 := by
  have h : (Tryz.prog.info? 166).map (fun i => (i.zero.map (fun z => z.cells.size), i.size, decide (i.bytes ≤ 1000))) = some (some 3, 3, true) := by kernel_rfl
  obtain ⟨i, hi, h2⟩ := Option.map_eq_some_iff.1 h
  simp only [Prod.mk.injEq, Option.map_eq_some_iff, decide_eq_true_eq] at h2
  obtain ⟨⟨z, hz, hz3⟩, hs, hb⟩ := h2
  exact ⟨i, hi, z, hz, hs, _, rfl, hz3, hb⟩
set_option maxRecDepth 100000 in
set_option maxHeartbeats 1000000 in
theorem sless_calls (X : List Tr) (g n cap k : Nat) (w : World) (hX : Row w g 166 (tcells X)) (hn : X.length = n) (hn2 : n ≤ 1000) (hnc : n ≤ cap) (hk : k < n) :
    Calls Tryz.prog 184 #[.slice (some ⟨g, 0, none⟩) n cap, .int .i64 (k : Int)] w fun e w' => ∃ v, e = .returned v ∧ Own w.heap.size w' 166 3 v (n - 1) (tcells (X.eraseIdx k)) ∧ On w w' := by
  have HN := Lib.hid hn
  clear hn
  have hk1 : (k : Int) < n := by omega
  have hk2 : (k : Int) + 1 ≤ n := by omega
  have hk3 : (k : Int) ≤ cap := by omega
  have hk4 : (k : Int) ≤ n := by omega
  have hk5 : (n : Int) ≤ cap := by omega
  have ek : IntKind.i64.wrap ((k : Int) + 1) = (k : Int) + 1 := by rw [IntKind.wrap_i64]; omega
  have hk6 : (0 : Int) ≤ (k : Int) + 1 := by omega
  obtain ⟨i3, hi3, z3, hz3, hs3, bytes3, hb3, hzs3, hb100⟩ : ∃ i, Tryz.prog.info? 166 = some i ∧ ∃ z, i.zero = some z ∧ i.size = 3 ∧ ∃ b, i.bytes = b ∧ z.cells.size = 3 ∧ b ≤ 1000 := tree_info
  have HNEW1 := Lib.hid (show ∀ W, On w W → ∀ j u, ((tcells X).take (3 * k))[j]? = some u → W.cell? ((⟨g, 0, none⟩ : Addr).add j) = some u from fun W O j u hu => by
    have ha : (⟨g, 0, none⟩ : Addr).add j = ⟨g, j, none⟩ := by unfold Addr.add; split <;> simp_all
    rw [ha]
    refine (hX.on O).cell ?_
    rw [List.getElem?_take] at hu
    split at hu
    · exact hu
    · cases hu)
  have HX := Lib.hid hX
  have HBY := Lib.hid (show ∀ q, q ≤ 1000 → q * bytes3 ≤ 1000000 from fun q hq => Nat.mul_le_mul hq hb100)
  clear hX
  by_cases hck : cap = k + 1
  · subst hck
    have hkk : (k : Int) ≤ (k : Int) + 1 := by omega
    have hn1 : n = k + 1 := by omega
    have hnk : (n : Int) ≤ (k : Int) + 1 := by omega
    have HN1 := Lib.hid hn1
    clear hn1
    have HNEW2 := Lib.hid (show ∀ W, On w W → ∀ j u, ((tcells X).drop (3 * (k + 1)))[j]? = some u → W.cell? ((⟨g, 0, none⟩ : Addr).add j) = some u from fun W O j u hu => by
      rw [List.drop_eq_nil_of_le (by rw [tcells_length, HN.out]; have := HN1.out; omega)] at hu
      simp at hu)
    go_enter Tryz.func184, Tryz.ntmps184
    go_wp2_with fail
    refine wp_region_held_drew (S := fun W => Kp [] w W) (by kernel_rfl) (Kp.refl _ _).drew (fun hHeld => ?_)
    have OwD := (On.refl w).drew
    refine Tk.tk 1 ?_ rfl (.inl ⟨by rfl, ?_⟩) ?_
    rotate_left
    · intro w hSw; go_simp; first | done | with_reducible rfl
    try simp only [Act.put, Tk.s3]
    refine Tk.tk 2 ?_ rfl (.inl ⟨by rfl, ?_⟩) ?_
    rotate_left
    · intro w hSw; go_simp; first | done | with_reducible rfl
    try simp only [Act.put, Tk.s3]
    refine Tk.tk 3 ?_ rfl (.inl ⟨by rfl, ?_⟩) ?_
    rotate_left
    · intro w hSw; go_simp; first | done | with_reducible rfl
    try simp only [Act.put, Tk.s3]
    refine Tk.tk 5 ?_ rfl (.inl ⟨by rfl, ?_⟩) ?_
    rotate_left
    · intro w hSw; go_simp; first | done | with_reducible rfl
    try simp only [Act.put, Tk.s3]
    refine Tk.tk 6 ?_ rfl (.inl ⟨by rfl, ?_⟩) ?_
    rotate_left
    · intro w hSw; go_simp; first | done | with_reducible rfl
    try simp only [Act.put, Tk.s3]
    refine Tk.tk 7 ?_ rfl (.inl ⟨by rfl, ?_⟩) ?_
    rotate_left
    · intro w hSw; go_simp; first | done | with_reducible rfl
    try simp only [Act.put, Tk.s3]
    refine Tk.tk 8 ?_ rfl (.inl ⟨by rfl, ?_⟩) ?_
    rotate_left
    · intro w hSw; go_simp; first | done | with_reducible rfl
    try simp only [Act.put, Tk.s3]
    refine wpAnyH_strong (S' := fun W => Kp [] w.drew W) (fun W h => Kp.then (Kp.of [] OwD) h) ?_
    have hHeldN : (fun W => Kp [] w.drew W) w.drew := Kp.refl _ _
    generalize w.drew = wD at *
    refine Tk.rd 0 rfl fun K hK => ?_
    go_simp
    have OA := (On.refl wD).alloc (.cells #[] 166)
    have NA := Own.new (base := w.heap.size) wD 166 3 #[] 0 (Nat.zero_le _) rfl OwD.size
    have OwA := OwD.call OA
    have hzD := OwD.size
    refine hK.out _ _ (Kp.of [] OA) (fun hHeld => ?_)
    clear hK K
    try simp only [Act.put, Tk.s3]
    generalize hA : wD.heap.size = A at *
    generalize wD.alloc (.cells #[] 166) = wA at *
    refine Tk.rd 4 rfl fun K hK => ?_
    refine step_append_any rfl _ _ 164 rfl w.heap.size 166 i3 z3 3 bytes3 Tryz.underlying164 hi3 hz3 hs3 hb3 hzs3 (by omega) (.slice (some ⟨A, 0, none⟩) 0 0) 0 [] rfl NA.own ⟨g, 0, none⟩ k (k + 1) ((tcells X).take (3 * k)) rfl (by rw [List.length_take, tcells_length, HN.out]; omega) (fun j u hu => HNEW1.out wA OwA j u hu) (fun u hu => tcells_one _ (List.mem_of_mem_take hu)) (by unfold maxLen; omega) (by have := HBY.out (0 + k) (by omega); omega) OwA.size ?_
    intro v1 w1 hown1 hgr1 hnil1 hob1
    have HOB : (Value.slice (some ⟨A, 0, none⟩) 0 0).ownBlock = some A := rfl
    have hv1 : ∀ y, v1.ownBlock = some y → wD.heap.size ≤ y := fun y hy => by
      rcases hob1 with e | e
      · rw [e, HOB] at hy; cases hy; omega
      · rw [e] at hy; cases hy; exact OA.size
    have Ow1 : On w w1 := OwA.grown hgr1 (fun y hy => by rw [HOB] at hy; cases hy; omega)
    have O1 : On wD w1 := OA.grown hgr1 (fun y hy => by rw [HOB] at hy; cases hy; omega)
    have hnn1 : v1 ≠ .slice none 0 0 := fun e => by cases (hnil1.1 e).1
    show K (Act.put _ (some 9) v1) w1
    refine hK.out _ _ (Kp.of [] O1) (fun hHeld => ?_)
    clear hK K
    try simp only [Act.put, Tk.s3]
    refine Tk.rd 9 rfl fun K hK => ?_
    refine step_append_any rfl _ _ 164 rfl w.heap.size 166 i3 z3 3 bytes3 Tryz.underlying164 hi3 hz3 hs3 hb3 hzs3 (by omega) v1 (0 + k) _ rfl hown1 ⟨g, 0, none⟩ 0 0 ((tcells X).drop (3 * (k + 1))) rfl (by rw [List.length_drop, tcells_length, HN.out]; have := HN1.out; omega) (fun j u hu => HNEW2.out w1 Ow1 j u hu) (fun u hu => tcells_one _ (List.mem_of_mem_drop hu)) (by unfold maxLen; omega) (by have := HBY.out (0 + k + 0) (by omega); omega) Ow1.size ?_
    intro v2 w2 hown2 hgr2 hnil2 hob2
    have Ow2 : On w w2 := Ow1.grown hgr2 (fun y hy => by have := hv1 y hy; omega)
    have O2 : On wD w2 := O1.grown hgr2 hv1
    show K (Act.put _ (some 14) v2) w2
    refine hK.out _ _ (Kp.of [] O2) (fun hHeld => ?_)
    clear hK K
    try simp only [Act.put, Tk.s3]
    refine Tk.tk 10 ?_ rfl (.inl ⟨by rfl, ?_⟩) ?_
    rotate_left
    · intro w hSw; go_simp; first | done | with_reducible rfl
    try simp only [Act.put, Tk.s3]
    refine wpAnyH_done (by kernel_rfl) ?_ _
    go_wp2_with fail
    go_ret
    refine ⟨v2, rfl, ⟨?_, fun e => hnn1 (hnil2.1 e).1⟩, Ow2⟩
    rw [tcells_erase, show n - 1 = 0 + k + 0 from by have := HN1.out; omega]
    exact hown2
  · have HNEW2 := Lib.hid (show ∀ W, On w W → ∀ j u, ((tcells X).drop (3 * (k + 1)))[j]? = some u → W.cell? ((⟨g, (k + 1) * 3, none⟩ : Addr).add j) = some u from fun W O j u hu => by
      have ha : (⟨g, (k + 1) * 3, none⟩ : Addr).add j = ⟨g, (k + 1) * 3 + j, none⟩ := by unfold Addr.add; split <;> simp_all
      rw [ha]
      refine (HX.out.on O).cell ?_
      rw [List.getElem?_drop] at hu
      rw [Nat.mul_comm (k + 1) 3]; exact hu)
    go_enter Tryz.func184, Tryz.ntmps184
    go_wp2_with fail
    refine wp_region_held_drew (S := fun W => Kp [] w W) (by kernel_rfl) (Kp.refl _ _).drew (fun hHeld => ?_)
    have OwD := (On.refl w).drew
    refine Tk.tk 1 ?_ rfl (.inl ⟨by rfl, ?_⟩) ?_
    rotate_left
    · intro w hSw; go_simp; first | done | with_reducible rfl
    try simp only [Act.put, Tk.s3]
    refine Tk.tk 2 ?_ rfl (.inl ⟨by rfl, ?_⟩) ?_
    rotate_left
    · intro w hSw; go_simp; first | done | with_reducible rfl
    try simp only [Act.put, Tk.s3]
    refine Tk.tk 3 ?_ rfl (.inl ⟨by rfl, ?_⟩) ?_
    rotate_left
    · intro w hSw; go_simp; first | done | with_reducible rfl
    try simp only [Act.put, Tk.s3]
    refine Tk.tk 5 ?_ rfl (.inl ⟨by rfl, ?_⟩) ?_
    rotate_left
    · intro w hSw; go_simp; first | done | with_reducible rfl
    try simp only [Act.put, Tk.s3]
    refine Tk.tk 6 ?_ rfl (.inl ⟨by rfl, ?_⟩) ?_
    rotate_left
    · intro w hSw; go_simp; first | done | with_reducible rfl
    try simp only [Act.put, Tk.s3]
    refine Tk.tk 7 ?_ rfl (.inl ⟨by rfl, ?_⟩) ?_
    rotate_left
    · intro w hSw; go_simp; first | done | with_reducible rfl
    try simp only [Act.put, Tk.s3]
    refine Tk.tk 8 ?_ rfl (.inl ⟨by rfl, ?_⟩) ?_
    rotate_left
    · intro w hSw; go_simp; first | done | with_reducible rfl
    try simp only [Act.put, Tk.s3]
    refine wpAnyH_strong (S' := fun W => Kp [] w.drew W) (fun W h => Kp.then (Kp.of [] OwD) h) ?_
    have hHeldN : (fun W => Kp [] w.drew W) w.drew := Kp.refl _ _
    generalize w.drew = wD at *
    refine Tk.rd 0 rfl fun K hK => ?_
    go_simp
    have OA := (On.refl wD).alloc (.cells #[] 166)
    have NA := Own.new (base := w.heap.size) wD 166 3 #[] 0 (Nat.zero_le _) rfl OwD.size
    have OwA := OwD.call OA
    have hzD := OwD.size
    refine hK.out _ _ (Kp.of [] OA) (fun hHeld => ?_)
    clear hK K
    try simp only [Act.put, Tk.s3]
    generalize hA : wD.heap.size = A at *
    generalize wD.alloc (.cells #[] 166) = wA at *
    refine Tk.rd 4 rfl fun K hK => ?_
    refine step_append_any rfl _ _ 164 rfl w.heap.size 166 i3 z3 3 bytes3 Tryz.underlying164 hi3 hz3 hs3 hb3 hzs3 (by omega) (.slice (some ⟨A, 0, none⟩) 0 0) 0 [] rfl NA.own ⟨g, 0, none⟩ k cap ((tcells X).take (3 * k)) rfl (by rw [List.length_take, tcells_length, HN.out]; omega) (fun j u hu => HNEW1.out wA OwA j u hu) (fun u hu => tcells_one _ (List.mem_of_mem_take hu)) (by unfold maxLen; omega) (by have := HBY.out (0 + k) (by omega); omega) OwA.size ?_
    intro v1 w1 hown1 hgr1 hnil1 hob1
    have HOB : (Value.slice (some ⟨A, 0, none⟩) 0 0).ownBlock = some A := rfl
    have hv1 : ∀ y, v1.ownBlock = some y → wD.heap.size ≤ y := fun y hy => by
      rcases hob1 with e | e
      · rw [e, HOB] at hy; cases hy; omega
      · rw [e] at hy; cases hy; exact OA.size
    have Ow1 : On w w1 := OwA.grown hgr1 (fun y hy => by rw [HOB] at hy; cases hy; omega)
    have O1 : On wD w1 := OA.grown hgr1 (fun y hy => by rw [HOB] at hy; cases hy; omega)
    have hnn1 : v1 ≠ .slice none 0 0 := fun e => by cases (hnil1.1 e).1
    show K (Act.put _ (some 9) v1) w1
    refine hK.out _ _ (Kp.of [] O1) (fun hHeld => ?_)
    clear hK K
    try simp only [Act.put, Tk.s3]
    refine Tk.rd 9 rfl fun K hK => ?_
    refine step_append_any rfl _ _ 164 rfl w.heap.size 166 i3 z3 3 bytes3 Tryz.underlying164 hi3 hz3 hs3 hb3 hzs3 (by omega) v1 (0 + k) _ rfl hown1 ⟨g, (k + 1) * 3, none⟩ (n - (k + 1)) (cap - (k + 1)) ((tcells X).drop (3 * (k + 1))) rfl (by rw [List.length_drop, tcells_length, HN.out]; omega) (fun j u hu => HNEW2.out w1 Ow1 j u hu) (fun u hu => tcells_one _ (List.mem_of_mem_drop hu)) (by unfold maxLen; omega) (by have := HBY.out (0 + k + (n - (k + 1))) (by omega); omega) Ow1.size ?_
    intro v2 w2 hown2 hgr2 hnil2 hob2
    have Ow2 : On w w2 := Ow1.grown hgr2 (fun y hy => by have := hv1 y hy; omega)
    have O2 : On wD w2 := O1.grown hgr2 hv1
    show K (Act.put _ (some 14) v2) w2
    refine hK.out _ _ (Kp.of [] O2) (fun hHeld => ?_)
    clear hK K
    try simp only [Act.put, Tk.s3]
    refine Tk.tk 10 ?_ rfl (.inl ⟨by rfl, ?_⟩) ?_
    rotate_left
    · intro w hSw; go_simp; first | done | with_reducible rfl
    try simp only [Act.put, Tk.s3]
    refine wpAnyH_done (by kernel_rfl) ?_ _
    go_wp2_with fail
    go_ret
    refine ⟨v2, rfl, ⟨?_, fun e => hnn1 (hnil2.1 e).1⟩, Ow2⟩
    rw [tcells_erase, show n - 1 = 0 + k + (n - (k + 1)) from by omega]
    exact hown2
end Go.Proofs.YtnadjlejlohgiaaGreatDoor.Wi

