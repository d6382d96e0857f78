/- A row of trees without one of them. Conditions: a row that is only read. -/
import Derived.Test.YtncidljdfipigaaDoorHm
import Derived.Test.YtncidljdfipigaaDoorWy
import Derived.Deep.AppendLies
import Derived.Deep.DeepCutAuto
import Derived.BigRegion
import Derived.Deep.RegionHeld3
namespace Go.Proofs.YtncidljdfipigaaDoor.Wi
open Go.RowKit Go.Proofs.YtncidljdfipigaaDoor.Mem Go.Proofs.YtncidljdfipigaaDoor.Hf
set_option linter.unusedVariables false
set_option linter.unusedSimpArgs false
/-- append of any many elements onto a row of the call's own, at a step of a region that draws its order. -/
theorem step_append_any {P : Program} {ops : Array Oper} {o : Oper} {a : Act} {K : Act → World → Prop} {Q : Exit → Act → World → Prop} {E : Prop} {w : World} (hgd : o.guard = none) (s x : Operand) (t : TypeId)
    (ho : o.op = .call { callee := .builtin .append, args := #[s, x], argTypes := #[t, t] })
    (base : Nat) (e : TypeId) (i : TypeInfo) (z : Value) (size bytes : Nat) (ht : P.underlying t = some (.slice e)) (hi : P.info? e = some i) (hz : i.zero = some z)
    (hsize : i.size = size) (hby : i.bytes = bytes) (hzs : z.cells.size = size) (hsz : 0 < size)
    (v : Value) (n : Nat) (xs : List Value) (hs : a.eval s = v) (hown : w.ownsRow base e size v n xs)
    (ad : Addr) (m c : Nat) (news : List Value) (hx : a.eval x = .slice (some ad) m c) (hl : news.length = m * size) (hnews : ∀ j u, news[j]? = some u → w.cell? (ad.add j) = some u) (h1 : ∀ u ∈ news, u.oneCell' = true)
    (h63 : n + m ≤ maxLen) (hbytes : (n + m) * bytes ≤ 140737488355328) (hbase : base ≤ w.heap.size)
    (h : ∀ v' w', w'.ownsRow base e size v' (n + m) (xs ++ news) → w.grownBy w' v.ownBlock → (v' = .slice none 0 0 ↔ v = .slice none 0 0 ∧ m = 0) → (v'.ownBlock = v.ownBlock ∨ v'.ownBlock = some w.heap.size) → K (a.put o.dst v') w') :
    if Region.wanted o (yielded ops a.tmps) = true then Oper.wp P o a w K Q else E := by
  have hw : Region.wanted o (yielded ops a.tmps) = true := by simp [Region.wanted, hgd]
  rw [if_pos hw]
  obtain ⟨v', w', hr, h2, h3, h4, h5⟩ := run_append_own_at (P := P) w base t o.type e i z size bytes ht hi hz hsize hby hzs hsz v n xs hown ad m c news hl hnews h1 h63 hbytes hbase
  unfold Oper.wp execOp
  simp only [ho, resolve, invoke, builtin, Sem.run_bind, Sem.run_pure, Result.andThen_ok, List.map_toArray, List.map_cons, List.map_nil, hs, hx, hr]
  exact h v' w' h2 h3 h4 h5
theorem tcells_one (X : List Tr) {u : Value} (hu : u ∈ tcells X) : u.oneCell' = true := by
  unfold tcells at hu
  obtain ⟨x, _, hx⟩ := List.mem_flatMap.1 hu
  simp [tcell] at hx
  rcases hx with rfl | rfl | rfl <;> rfl
theorem tree_info : ∃ i, Tryd.prog.info? 133 = some i ∧ ∃ z, i.zero = some z ∧ i.size = 3 ∧ ∃ b, i.bytes = b ∧ z.cells.size = 3 ∧ b ≤ 1000 := by
  have h : (Tryd.prog.info? 133).map (fun i => (i.zero.map (fun z => z.cells.size), i.size, decide (i.bytes ≤ 1000))) = some (some 3, 3, true) := by kernel_rfl
  obtain ⟨i, hi, h2⟩ := Option.map_eq_some_iff.1 h
  simp only [Prod.mk.injEq, Option.map_eq_some_iff, decide_eq_true_eq] at h2
  obtain ⟨⟨z, hz, hz3⟩, hs, hb⟩ := h2
  exact ⟨i, hi, z, hz, hs, _, rfl, hz3, hb⟩
set_option maxRecDepth 100000 in
set_option maxHeartbeats 1000000 in
theorem sless_calls (X : List Tr) (g n cap k : Nat) (w : World) (hX : Row w g 133 (tcells X)) (hn : X.length = n) (hn2 : n ≤ 1000) (hnc : n ≤ cap) (hk : k < n) :
    Calls Tryd.prog 148 #[.slice (some ⟨g, 0, none⟩) n cap, .int .i64 (k : Int)] w fun e w' => ∃ v, e = .returned v ∧ Own w.heap.size w' 133 3 v (n - 1) (tcells (X.eraseIdx k)) ∧ On w w' := by
  have HN := Lib.hid hn
  clear hn
  have hk1 : (k : Int) < n := by omega
  have hk2 : (k : Int) + 1 ≤ n := by omega
  have hk3 : (k : Int) ≤ cap := by omega
  have hk4 : (k : Int) ≤ n := by omega
  have hk5 : (n : Int) ≤ cap := by omega
  have ek : IntKind.i64.wrap ((k : Int) + 1) = (k : Int) + 1 := by rw [IntKind.wrap_i64]; omega
  have hk6 : (0 : Int) ≤ (k : Int) + 1 := by omega
  obtain ⟨i3, hi3, z3, hz3, hs3, bytes3, hb3, hzs3, hb100⟩ : ∃ i, Tryd.prog.info? 133 = some i ∧ ∃ z, i.zero = some z ∧ i.size = 3 ∧ ∃ b, i.bytes = b ∧ z.cells.size = 3 ∧ b ≤ 1000 := tree_info
  have HNEW1 := Lib.hid (show ∀ W, On w W → ∀ j u, ((tcells X).take (3 * k))[j]? = some u → W.cell? ((⟨g, 0, none⟩ : Addr).add j) = some u from fun W O j u hu => by
    have ha : (⟨g, 0, none⟩ : Addr).add j = ⟨g, j, none⟩ := by unfold Addr.add; split <;> simp_all
    rw [ha]
    refine (hX.on O).cell ?_
    rw [List.getElem?_take] at hu
    split at hu
    · exact hu
    · cases hu)
  have HX := Lib.hid hX
  have HBY := Lib.hid (show ∀ q, q ≤ 1000 → q * bytes3 ≤ 1000000 from fun q hq => Nat.mul_le_mul hq hb100)
  clear hX
  by_cases hck : cap = k + 1
  · subst hck
    have hkk : (k : Int) ≤ (k : Int) + 1 := by omega
    have hn1 : n = k + 1 := by omega
    have hnk : (n : Int) ≤ (k : Int) + 1 := by omega
    have HN1 := Lib.hid hn1
    clear hn1
    have HNEW2 := Lib.hid (show ∀ W, On w W → ∀ j u, ((tcells X).drop (3 * (k + 1)))[j]? = some u → W.cell? ((⟨g, 0, none⟩ : Addr).add j) = some u from fun W O j u hu => by
      rw [List.drop_eq_nil_of_le (by rw [tcells_length, HN.out]; have := HN1.out; omega)] at hu
      simp at hu)
    go_enter Tryd.func148, Tryd.ntmps148
    go_wp2_with fail
    refine wp_region_held_drew (S := fun W => Kp [] w W) (by kernel_rfl) (Kp.refl _ _).drew (fun hHeld => ?_)
    have OwD := (On.refl w).drew
    refine wpAnyH_take (i := 1) (oi := _) (v := ?_) rfl (by kernel_rfl) (by kernel_rfl) (by kernel_rfl) (fun _ _ _ h => h) (Or.inl ⟨by rfl, ?_⟩) (by assumption) ?_
    rotate_left
    · intro w hSw
      go_simp
      first | done | with_reducible rfl
    try simp only [Act.put, List.setIfInBounds_toArray, List.set_cons_zero, List.set_cons_succ]
    refine wpAnyH_take (i := 2) (oi := _) (v := ?_) rfl (by kernel_rfl) (by kernel_rfl) (by kernel_rfl) (fun _ _ _ h => h) (Or.inl ⟨by rfl, ?_⟩) (by assumption) ?_
    rotate_left
    · intro w hSw
      go_simp
      first | done | with_reducible rfl
    try simp only [Act.put, List.setIfInBounds_toArray, List.set_cons_zero, List.set_cons_succ]
    refine wpAnyH_take (i := 3) (oi := _) (v := ?_) rfl (by kernel_rfl) (by kernel_rfl) (by kernel_rfl) (fun _ _ _ h => h) (Or.inl ⟨by rfl, ?_⟩) (by assumption) ?_
    rotate_left
    · intro w hSw
      go_simp
      first | done | with_reducible rfl
    try simp only [Act.put, List.setIfInBounds_toArray, List.set_cons_zero, List.set_cons_succ]
    refine wpAnyH_take (i := 5) (oi := _) (v := ?_) rfl (by kernel_rfl) (by kernel_rfl) (by kernel_rfl) (fun _ _ _ h => h) (Or.inl ⟨by rfl, ?_⟩) (by assumption) ?_
    rotate_left
    · intro w hSw
      go_simp
      first | done | with_reducible rfl
    try simp only [Act.put, List.setIfInBounds_toArray, List.set_cons_zero, List.set_cons_succ]
    refine wpAnyH_take (i := 6) (oi := _) (v := ?_) rfl (by kernel_rfl) (by kernel_rfl) (by kernel_rfl) (fun _ _ _ h => h) (Or.inl ⟨by rfl, ?_⟩) (by assumption) ?_
    rotate_left
    · intro w hSw
      go_simp
      first | done | with_reducible rfl
    try simp only [Act.put, List.setIfInBounds_toArray, List.set_cons_zero, List.set_cons_succ]
    refine wpAnyH_take (i := 7) (oi := _) (v := ?_) rfl (by kernel_rfl) (by kernel_rfl) (by kernel_rfl) (fun _ _ _ h => h) (Or.inl ⟨by rfl, ?_⟩) (by assumption) ?_
    rotate_left
    · intro w hSw
      go_simp
      first | done | with_reducible rfl
    try simp only [Act.put, List.setIfInBounds_toArray, List.set_cons_zero, List.set_cons_succ]
    refine wpAnyH_take (i := 8) (oi := _) (v := ?_) rfl (by kernel_rfl) (by kernel_rfl) (by kernel_rfl) (fun _ _ _ h => h) (Or.inl ⟨by rfl, ?_⟩) (by assumption) ?_
    rotate_left
    · intro w hSw
      go_simp
      first | done | with_reducible rfl
    try simp only [Act.put, List.setIfInBounds_toArray, List.set_cons_zero, List.set_cons_succ]
    refine wpAnyH_strong (S' := fun W => Kp [] w.drew W) (fun W h => Kp.then (Kp.of [] OwD) h) ?_
    have hHeldN : (fun W => Kp [] w.drew W) w.drew := Kp.refl _ _
    generalize w.drew = wD at *
    refine wpAnyH_ready (rs := [0]) (by kernel_rfl) (by simp) ?_
    refine AllReadyH.cons (o := _) rfl (fun K hK => ?_) AllReadyH.nil
    go_simp
    have OA := (On.refl wD).alloc (.cells #[] 133)
    have NA := Own.new (base := w.heap.size) wD 133 3 #[] 0 (Nat.zero_le _) rfl OwD.size
    have OwA := OwD.call OA
    have hzD := OwD.size
    refine hK.out _ _ (Kp.of [] OA) (fun hHeld => ?_)
    clear hK K
    try simp only [Act.put, List.setIfInBounds_toArray, List.set_cons_zero, List.set_cons_succ]
    generalize hA : wD.heap.size = A at *
    generalize wD.alloc (.cells #[] 133) = wA at *
    refine wpAnyH_ready (rs := [4]) (by kernel_rfl) (by simp) ?_
    refine AllReadyH.cons (o := _) rfl (fun K hK => ?_) AllReadyH.nil
    refine step_append_any rfl _ _ 131 rfl w.heap.size 133 i3 z3 3 bytes3 Tryd.underlying131 hi3 hz3 hs3 hb3 hzs3 (by omega) (.slice (some ⟨A, 0, none⟩) 0 0) 0 [] rfl NA.own ⟨g, 0, none⟩ k (k + 1) ((tcells X).take (3 * k)) rfl (by rw [List.length_take, tcells_length, HN.out]; omega) (fun j u hu => HNEW1.out wA OwA j u hu) (fun u hu => tcells_one _ (List.mem_of_mem_take hu)) (by unfold maxLen; omega) (by have := HBY.out (0 + k) (by omega); omega) OwA.size ?_
    intro v1 w1 hown1 hgr1 hnil1 hob1
    have HOB : (Value.slice (some ⟨A, 0, none⟩) 0 0).ownBlock = some A := rfl
    have hv1 : ∀ y, v1.ownBlock = some y → wD.heap.size ≤ y := fun y hy => by
      rcases hob1 with e | e
      · rw [e, HOB] at hy; cases hy; omega
      · rw [e] at hy; cases hy; exact OA.size
    have Ow1 : On w w1 := OwA.grown hgr1 (fun y hy => by rw [HOB] at hy; cases hy; omega)
    have O1 : On wD w1 := OA.grown hgr1 (fun y hy => by rw [HOB] at hy; cases hy; omega)
    have hnn1 : v1 ≠ .slice none 0 0 := fun e => by cases (hnil1.1 e).1
    show K (Act.put _ (some 9) v1) w1
    refine hK.out _ _ (Kp.of [] O1) (fun hHeld => ?_)
    clear hK K
    try simp only [Act.put, List.setIfInBounds_toArray, List.set_cons_zero, List.set_cons_succ]
    refine wpAnyH_ready (rs := [9]) (by kernel_rfl) (by simp) ?_
    refine AllReadyH.cons (o := _) rfl (fun K hK => ?_) AllReadyH.nil
    refine step_append_any rfl _ _ 131 rfl w.heap.size 133 i3 z3 3 bytes3 Tryd.underlying131 hi3 hz3 hs3 hb3 hzs3 (by omega) v1 (0 + k) _ rfl hown1 ⟨g, 0, none⟩ 0 0 ((tcells X).drop (3 * (k + 1))) rfl (by rw [List.length_drop, tcells_length, HN.out]; have := HN1.out; omega) (fun j u hu => HNEW2.out w1 Ow1 j u hu) (fun u hu => tcells_one _ (List.mem_of_mem_drop hu)) (by unfold maxLen; omega) (by have := HBY.out (0 + k + 0) (by omega); omega) Ow1.size ?_
    intro v2 w2 hown2 hgr2 hnil2 hob2
    have Ow2 : On w w2 := Ow1.grown hgr2 (fun y hy => by have := hv1 y hy; omega)
    have O2 : On wD w2 := O1.grown hgr2 hv1
    show K (Act.put _ (some 14) v2) w2
    refine hK.out _ _ (Kp.of [] O2) (fun hHeld => ?_)
    clear hK K
    try simp only [Act.put, List.setIfInBounds_toArray, List.set_cons_zero, List.set_cons_succ]
    refine wpAnyH_take (i := 10) (oi := _) (v := ?_) rfl (by kernel_rfl) (by kernel_rfl) (by kernel_rfl) (fun _ _ _ h => h) (Or.inl ⟨by rfl, ?_⟩) (by assumption) ?_
    rotate_left
    · intro w hSw
      go_simp
      first | done | with_reducible rfl
    try simp only [Act.put, List.setIfInBounds_toArray, List.set_cons_zero, List.set_cons_succ]
    refine wpAnyH_done (by kernel_rfl) ?_ _
    go_wp2_with fail
    go_ret
    refine ⟨v2, rfl, ⟨?_, fun e => hnn1 (hnil2.1 e).1⟩, Ow2⟩
    rw [tcells_erase, show n - 1 = 0 + k + 0 from by have := HN1.out; omega]
    exact hown2
  · have HNEW2 := Lib.hid (show ∀ W, On w W → ∀ j u, ((tcells X).drop (3 * (k + 1)))[j]? = some u → W.cell? ((⟨g, (k + 1) * 3, none⟩ : Addr).add j) = some u from fun W O j u hu => by
      have ha : (⟨g, (k + 1) * 3, none⟩ : Addr).add j = ⟨g, (k + 1) * 3 + j, none⟩ := by unfold Addr.add; split <;> simp_all
      rw [ha]
      refine (HX.out.on O).cell ?_
      rw [List.getElem?_drop] at hu
      rw [Nat.mul_comm (k + 1) 3]; exact hu)
    go_enter Tryd.func148, Tryd.ntmps148
    go_wp2_with fail
    refine wp_region_held_drew (S := fun W => Kp [] w W) (by kernel_rfl) (Kp.refl _ _).drew (fun hHeld => ?_)
    have OwD := (On.refl w).drew
    refine wpAnyH_take (i := 1) (oi := _) (v := ?_) rfl (by kernel_rfl) (by kernel_rfl) (by kernel_rfl) (fun _ _ _ h => h) (Or.inl ⟨by rfl, ?_⟩) (by assumption) ?_
    rotate_left
    · intro w hSw
      go_simp
      first | done | with_reducible rfl
    try simp only [Act.put, List.setIfInBounds_toArray, List.set_cons_zero, List.set_cons_succ]
    refine wpAnyH_take (i := 2) (oi := _) (v := ?_) rfl (by kernel_rfl) (by kernel_rfl) (by kernel_rfl) (fun _ _ _ h => h) (Or.inl ⟨by rfl, ?_⟩) (by assumption) ?_
    rotate_left
    · intro w hSw
      go_simp
      first | done | with_reducible rfl
    try simp only [Act.put, List.setIfInBounds_toArray, List.set_cons_zero, List.set_cons_succ]
    refine wpAnyH_take (i := 3) (oi := _) (v := ?_) rfl (by kernel_rfl) (by kernel_rfl) (by kernel_rfl) (fun _ _ _ h => h) (Or.inl ⟨by rfl, ?_⟩) (by assumption) ?_
    rotate_left
    · intro w hSw
      go_simp
      first | done | with_reducible rfl
    try simp only [Act.put, List.setIfInBounds_toArray, List.set_cons_zero, List.set_cons_succ]
    refine wpAnyH_take (i := 5) (oi := _) (v := ?_) rfl (by kernel_rfl) (by kernel_rfl) (by kernel_rfl) (fun _ _ _ h => h) (Or.inl ⟨by rfl, ?_⟩) (by assumption) ?_
    rotate_left
    · intro w hSw
      go_simp
      first | done | with_reducible rfl
    try simp only [Act.put, List.setIfInBounds_toArray, List.set_cons_zero, List.set_cons_succ]
    refine wpAnyH_take (i := 6) (oi := _) (v := ?_) rfl (by kernel_rfl) (by kernel_rfl) (by kernel_rfl) (fun _ _ _ h => h) (Or.inl ⟨by rfl, ?_⟩) (by assumption) ?_
    rotate_left
    · intro w hSw
      go_simp
      first | done | with_reducible rfl
    try simp only [Act.put, List.setIfInBounds_toArray, List.set_cons_zero, List.set_cons_succ]
    refine wpAnyH_take (i := 7) (oi := _) (v := ?_) rfl (by kernel_rfl) (by kernel_rfl) (by kernel_rfl) (fun _ _ _ h => h) (Or.inl ⟨by rfl, ?_⟩) (by assumption) ?_
    rotate_left
    · intro w hSw
      go_simp
      first | done | with_reducible rfl
    try simp only [Act.put, List.setIfInBounds_toArray, List.set_cons_zero, List.set_cons_succ]
    refine wpAnyH_take (i := 8) (oi := _) (v := ?_) rfl (by kernel_rfl) (by kernel_rfl) (by kernel_rfl) (fun _ _ _ h => h) (Or.inl ⟨by rfl, ?_⟩) (by assumption) ?_
    rotate_left
    · intro w hSw
      go_simp
      first | done | with_reducible rfl
    try simp only [Act.put, List.setIfInBounds_toArray, List.set_cons_zero, List.set_cons_succ]
    refine wpAnyH_strong (S' := fun W => Kp [] w.drew W) (fun W h => Kp.then (Kp.of [] OwD) h) ?_
    have hHeldN : (fun W => Kp [] w.drew W) w.drew := Kp.refl _ _
    generalize w.drew = wD at *
    refine wpAnyH_ready (rs := [0]) (by kernel_rfl) (by simp) ?_
    refine AllReadyH.cons (o := _) rfl (fun K hK => ?_) AllReadyH.nil
    go_simp
    have OA := (On.refl wD).alloc (.cells #[] 133)
    have NA := Own.new (base := w.heap.size) wD 133 3 #[] 0 (Nat.zero_le _) rfl OwD.size
    have OwA := OwD.call OA
    have hzD := OwD.size
    refine hK.out _ _ (Kp.of [] OA) (fun hHeld => ?_)
    clear hK K
    try simp only [Act.put, List.setIfInBounds_toArray, List.set_cons_zero, List.set_cons_succ]
    generalize hA : wD.heap.size = A at *
    generalize wD.alloc (.cells #[] 133) = wA at *
    refine wpAnyH_ready (rs := [4]) (by kernel_rfl) (by simp) ?_
    refine AllReadyH.cons (o := _) rfl (fun K hK => ?_) AllReadyH.nil
    refine step_append_any rfl _ _ 131 rfl w.heap.size 133 i3 z3 3 bytes3 Tryd.underlying131 hi3 hz3 hs3 hb3 hzs3 (by omega) (.slice (some ⟨A, 0, none⟩) 0 0) 0 [] rfl NA.own ⟨g, 0, none⟩ k cap ((tcells X).take (3 * k)) rfl (by rw [List.length_take, tcells_length, HN.out]; omega) (fun j u hu => HNEW1.out wA OwA j u hu) (fun u hu => tcells_one _ (List.mem_of_mem_take hu)) (by unfold maxLen; omega) (by have := HBY.out (0 + k) (by omega); omega) OwA.size ?_
    intro v1 w1 hown1 hgr1 hnil1 hob1
    have HOB : (Value.slice (some ⟨A, 0, none⟩) 0 0).ownBlock = some A := rfl
    have hv1 : ∀ y, v1.ownBlock = some y → wD.heap.size ≤ y := fun y hy => by
      rcases hob1 with e | e
      · rw [e, HOB] at hy; cases hy; omega
      · rw [e] at hy; cases hy; exact OA.size
    have Ow1 : On w w1 := OwA.grown hgr1 (fun y hy => by rw [HOB] at hy; cases hy; omega)
    have O1 : On wD w1 := OA.grown hgr1 (fun y hy => by rw [HOB] at hy; cases hy; omega)
    have hnn1 : v1 ≠ .slice none 0 0 := fun e => by cases (hnil1.1 e).1
    show K (Act.put _ (some 9) v1) w1
    refine hK.out _ _ (Kp.of [] O1) (fun hHeld => ?_)
    clear hK K
    try simp only [Act.put, List.setIfInBounds_toArray, List.set_cons_zero, List.set_cons_succ]
    refine wpAnyH_ready (rs := [9]) (by kernel_rfl) (by simp) ?_
    refine AllReadyH.cons (o := _) rfl (fun K hK => ?_) AllReadyH.nil
    refine step_append_any rfl _ _ 131 rfl w.heap.size 133 i3 z3 3 bytes3 Tryd.underlying131 hi3 hz3 hs3 hb3 hzs3 (by omega) v1 (0 + k) _ rfl hown1 ⟨g, (k + 1) * 3, none⟩ (n - (k + 1)) (cap - (k + 1)) ((tcells X).drop (3 * (k + 1))) rfl (by rw [List.length_drop, tcells_length, HN.out]; omega) (fun j u hu => HNEW2.out w1 Ow1 j u hu) (fun u hu => tcells_one _ (List.mem_of_mem_drop hu)) (by unfold maxLen; omega) (by have := HBY.out (0 + k + (n - (k + 1))) (by omega); omega) Ow1.size ?_
    intro v2 w2 hown2 hgr2 hnil2 hob2
    have Ow2 : On w w2 := Ow1.grown hgr2 (fun y hy => by have := hv1 y hy; omega)
    have O2 : On wD w2 := O1.grown hgr2 hv1
    show K (Act.put _ (some 14) v2) w2
    refine hK.out _ _ (Kp.of [] O2) (fun hHeld => ?_)
    clear hK K
    try simp only [Act.put, List.setIfInBounds_toArray, List.set_cons_zero, List.set_cons_succ]
    refine wpAnyH_take (i := 10) (oi := _) (v := ?_) rfl (by kernel_rfl) (by kernel_rfl) (by kernel_rfl) (fun _ _ _ h => h) (Or.inl ⟨by rfl, ?_⟩) (by assumption) ?_
    rotate_left
    · intro w hSw
      go_simp
      first | done | with_reducible rfl
    try simp only [Act.put, List.setIfInBounds_toArray, List.set_cons_zero, List.set_cons_succ]
    refine wpAnyH_done (by kernel_rfl) ?_ _
    go_wp2_with fail
    go_ret
    refine ⟨v2, rfl, ⟨?_, fun e => hnn1 (hnil2.1 e).1⟩, Ow2⟩
    rw [tcells_erase, show n - 1 = 0 + k + (n - (k + 1)) from by omega]
    exact hown2
end Go.Proofs.YtncidljdfipigaaDoor.Wi
