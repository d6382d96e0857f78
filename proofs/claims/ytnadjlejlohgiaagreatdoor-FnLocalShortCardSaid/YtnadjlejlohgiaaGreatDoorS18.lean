/- Own texts joined: WLad. -/
import Derived.Test.YtnadjlejlohgiaaGreatDoorS14
import Derived.Test.YtnadjlejlohgiaaGreatDoorS17
/- The symbols of lengths and distances, in both programs: their least numbers, their bits, which one a number has. -/
namespace Go.Proofs.YtnadjlejlohgiaaGreatDoor.Wi
open Go.RowKit Go.Proofs.YtnadjlejlohgiaaGreatDoor.Mem Go.Proofs.YtnadjlejlohgiaaGreatDoor.Bt Go.Proofs.YtnadjlejlohgiaaGreatDoor.Cd Go.Proofs.YtnadjlejlohgiaaGreatDoor.De Go.Proofs.YtnadjlejlohgiaaGreatDoor.En
set_option linter.unusedVariables false
set_option linter.unusedSimpArgs false
/-- A row of numbers after an append. -/
theorem nums_app {wr w1 : World} {r : Nat} {v v' : Value} {l : List Nat} {x : Nat} (h : Nums wr r v l)
    (hown : w1.ownsRow 0 3 1 v' (l.length + 1) (i64s l ++ (#[.int .i64 (x : Int)] : Array Value).toList)) (hg : wr.grownBy w1 v.ownBlock) (hne : v' ≠ .slice none 0 0) (hat : ∀ k, v'.ownBlock = some k → v.ownBlock = some k ∨ wr.heap.size ≤ k) :
    ∃ r2 cap, v' = .slice (some ⟨r2, 0, none⟩) (l.length + 1) cap ∧ Nums w1 r2 v' (l ++ [x]) ∧ (r2 = r ∨ wr.heap.size ≤ r2) ∧ r2 < w1.heap.size ∧ Kp [r] wr w1 ∧ l.length + 1 ≤ cap ∧ cap ≤ maxLen := by
  have e : i64s l ++ (#[.int .i64 (x : Int)] : Array Value).toList = i64s (l ++ [x]) := by unfold i64s; rw [List.map_append]; rfl
  rw [e] at hown
  rcases hown.2 with ⟨h0, _⟩ | ⟨k, cap, cur, hv, _, hh, h1, h2, h3, h4⟩
  · exact absurd h0 hne
  · have hb : v'.ownBlock = some k := by rw [hv]; rfl
    have hk : k = r ∨ wr.heap.size ≤ k := by
      rcases hat k hb with a | a
      · exact .inl (h.at_ k a)
      · exact .inr a
    refine ⟨k, cap, hv, ⟨by simpa using hown, fun j hj => by rw [hb] at hj; cases hj; rfl⟩, hk, ?_, ?_, h1, h2⟩
    · rcases Nat.lt_or_ge k w1.heap.size with hl | hl
      · exact hl
      · rw [Array.getElem?_eq_none hl] at hh; cases hh
    · exact Kp.grown hg (fun j hj => by rw [h.at_ j hj]; simp)
/-- l = append(l, x): one number more. -/
theorem wpList_nat {ops : Array Oper} {rest : List Oper} {o : Oper} {act : Act} {Q : Exit → Act → World → Prop} {wr : World} (hgd : o.guard = none) (s y : Operand)
    (ho : o.op = .call { callee := .builtin .append, args := #[s, y], argTypes := #[98, 98] })
    {r : Nat} {v : Value} {l : List Nat} {x : Nat} (hs : act.eval s = v) (hby : Nums wr r v l) (hx : act.eval y = .slice (some ⟨wr.heap.size, 0, none⟩) 1 1) (hl : l.length ≤ 1000000)
    (h : ∀ r2 cap w1, Nums w1 r2 (.slice (some ⟨r2, 0, none⟩) (l.length + 1) cap) (l ++ [x]) → (r2 = r ∨ wr.heap.size ≤ r2) → r2 < w1.heap.size → Kp [r] wr w1 → l.length + 1 ≤ cap → cap ≤ maxLen →
      wpList Tryz.prog ops Q rest (act.put o.dst (.slice (some ⟨r2, 0, none⟩) (l.length + 1) cap)) w1) :
    wpList Tryz.prog ops Q (o :: rest) act (wr.alloc (.cells #[.int .i64 (x : Int)] 3)) := by
  obtain ⟨i0, hi, hz0, hz1, hz2⟩ := info_parts i64info
  refine wpList_app_at hgd s y 98 ho i0 (.int .i64 0) 8 1 Tryz.underlying98 hi hz0 hz1 hz2 rfl (by decide) rfl v _ _ hs hby.own hx (by simp [Value.oneCell']) (by unfold maxLen; omega) (by omega) ?_
  intro v' w1 hown' hg' hne' hat'
  obtain ⟨r2, cap2, rfl, hby2, hr2, hrl2, K2, hc1, hc2⟩ := nums_app hby hown' hg' hne' hat'
  exact h r2 cap2 w1 hby2 hr2 hrl2 K2 hc1 hc2
theorem Nums.nil (w : World) (r : Nat) : Nums w r (.slice none 0 0) [] := ⟨World.ownsRow_nil _ _ _ _, fun g hg => by simp [Value.ownBlock] at hg⟩
theorem Nums.new (w : World) (cs : Array Value) (l : List Nat) (h : cs.toList = i64s l) (hl : l.length ≤ 1000000) : Nums (w.alloc (.cells cs 3)) w.heap.size (.slice (some ⟨w.heap.size, 0, none⟩) l.length l.length) l := by
  have hs : cs.size = l.length := by rw [← Array.length_toList, h, i64s_length]
  refine ⟨?_, fun g hg => by simp [Value.ownBlock] at hg; exact hg.symm⟩
  have := World.ownsRow_lit w (base := 0) (e := 3) (size := 1) cs l.length (Nat.zero_le _) (by unfold maxLen; omega) (by rw [hs]; omega)
  rw [h] at this
  exact this
theorem base_snoc : ∀ (l : List Nat) (n x : Nat), base n (l ++ [x]) = base n l ++ [n + ((l.map fun b => 2 ^ b).sum)]
  | [], n, x => by simp [base]
  | b :: l, n, x => by
    rw [List.cons_append, base, base_snoc l, base, List.cons_append, List.map_cons, List.sum_cons]
    congr 3; omega
theorem base_length : ∀ (l : List Nat) (n : Nat), (base n l).length = l.length
  | [], _ => rfl
  | b :: l, n => by rw [base, List.length_cons, base_length l, List.length_cons]
theorem sum_take_succ (l : List Nat) {k : Nat} (h : k < l.length) : (((l.take (k + 1)).map fun b => 2 ^ b).sum) = (((l.take k).map fun b => 2 ^ b).sum) + 2 ^ l.getD k 0 := by
  rw [List.take_succ_eq_append_getElem h, List.map_append, List.sum_append_nat, List.getD_eq_getElem?_getD, List.getElem?_eq_getElem h]; simp
theorem sum_take_le (l : List Nat) (h : ∀ x ∈ l, x ≤ 13) : ∀ k, (((l.take k).map fun b => 2 ^ b).sum) ≤ 8192 * k
  | 0 => by simp
  | k + 1 => by
    have ih := sum_take_le l h k
    by_cases hk : k < l.length
    · rw [sum_take_succ l hk]
      have := pow_le (getD_le h k)
      omega
    · rw [List.take_of_length_le (by omega)]
      rw [List.take_of_length_le (by omega)] at ih
      omega
theorem base_take (l : List Nat) (n : Nat) {k : Nat} (h : k < l.length) : base n (l.take (k + 1)) = base n (l.take k) ++ [n + (((l.take k).map fun b => 2 ^ b).sum)] := by
  rw [List.take_succ_eq_append_getElem h, base_snoc]
set_option maxRecDepth 100000 in
set_option maxHeartbeats 1000000 in
theorem sbase_calls (l : List Nat) (g o n cap from_ : Nat) (w : World) (hR : RowO w g o 3 (i64s l)) (hl : l.length = n) (hn : n ≤ 1000) (hc : n ≤ cap) (h13 : ∀ x ∈ l, x ≤ 13) (hf : from_ ≤ 10) :
    Calls Tryz.prog 163 #[.slice (some ⟨g, o, none⟩) n cap, .int .i64 from_] w (GivesI w (base from_ l)) := by
  have HL := Lib.hid hl
  have H13 := Lib.hid h13
  clear hl h13
  have hg1 := hR.lt
  go_enter Tryz.func163, Tryz.ntmps163
  go_wp2_with fail
  have N0 := Nums.new w #[] [] rfl (by simp)
  have O0 := (On.refl w).alloc (.cells #[] 3)
  go_loopw [1, 5, 6] (fun f v x wr => ∃ (k r c : Nat), x = .int .i64 (k : Int) ∧ k ≤ n ∧ f = .int .i64 ((from_ + (((l.take k).map fun b => 2 ^ b).sum) : Nat) : Int) ∧ v = .slice (some ⟨r, 0, none⟩) k c ∧ Nums wr r (.slice (some ⟨r, 0, none⟩) k c) (base from_ (l.take k)) ∧ w.heap.size ≤ r ∧ r < wr.heap.size ∧ On w wr) (fun _ _ x _ => n - (intOf x).toNat)
  case atStart => exact ⟨0, w.heap.size, 0, rfl, by omega, rfl, rfl, N0, Nat.le_refl _, (Blk.new w _ _).lt, O0⟩
  case round =>
    obtain ⟨k, r, c, rfl, hk, rfl, rfl, hN, hrb, hrl, O⟩ := hrel
    by_cases hlt : k < n
    · have hkl : k < l.length := by rw [HL.out]; exact hlt
      have hsum := sum_take_le l H13.out k
      have hst := sum_take_succ l hkl
      have hbt := base_take l from_ hkl
      have hlen : (base from_ (l.take k)).length = k := by rw [base_length, List.length_take]; omega
      have hb13 := getD_le H13.out k
      have hpw := pow_le hb13
      have c0 : wr.cell? ⟨g, o + k, none⟩ = some (.int .i64 (l.getD k 0 : Nat)) := (hR.on O).cell (i64s_get hkl)
      obtain ⟨P, hP⟩ : ∃ P, 2 ^ l.getD k 0 = P := ⟨_, rfl⟩
      have hpc := fun w => pow_same (l.getD k 0) P (Lib.hid hP) (by omega) w
      rw [hP] at hst hpw
      have HPC := Lib.hid hpc
      clear hP hpc
      generalize l.getD k 0 = b at *
      generalize hs : ((l.take k).map fun b => 2 ^ b).sum = s at *
      have hfs : from_ + s + P = from_ + (s + P) := by omega
      have hfs2 : from_ + s ≤ 9000000 := by omega
      generalize hfv : from_ + s = fs at *
      have HFS := Lib.hid hfs
      have HSS := Lib.hid hs
      have HFV := Lib.hid hfv
      clear hs hfv hfs
      have HST := Lib.hid hst
      have HBT := Lib.hid hbt
      have HLEN := Lib.hid hlen
      have hl2 : (base from_ (l.take k)).length ≤ 1000000 := by omega
      clear hst hbt hlen
      have hgr : g ≠ r := by omega
      have HGR := Lib.hid hgr
      clear hgr
      have hN0 := hN
      go_wp2_with (at_builtin; go_must (refine wpList_nat (x := fs) rfl _ _ rfl rfl hN rfl hl2 ?_); intro r2 c2 w1 hN1 hr2 hrl2 K2 hc1 hc2; have d0 : w1.cell? ⟨g, o + k, none⟩ = some (.int .i64 (b : Int)) := (K2.cell (World.block_lt_of_cell? wr _ c0) (by simpa using HGR.out)).trans c0; clear c0)
      refine (HPC.out _).mono ?_
      rintro e w2 ⟨rfl, hw⟩
      obtain rfl : w1 = w2 := hw.symm
      go_wp2_with fail
      rw [HLEN.out] at hN1
      have O1 : On w w1 := K2.on O (fun x hx => by simp at hx; omega)
      rw [← HBT.out] at hN1
      refine ⟨⟨k + 1, r2, c2, by go_num, by omega, by rw [HST.out, ← HFS.out]; go_num, by rw [HLEN.out], hN1, by have := O.size; omega, hrl2, O1⟩, by simp [intOf]; omega⟩
    · obtain rfl : k = n := by omega
      have hlen : (base from_ l).length = k := by rw [base_length, HL.out]
      have ht : l.take k = l := List.take_of_length_le (by rw [HL.out]; exact Nat.le_refl _)
      rw [ht] at hN
      have HLEN := Lib.hid hlen
      clear hlen ht
      go_wp2_with fail
      go_ret
      exact ⟨r, c, by rw [HLEN.out]; rfl, by rw [HLEN.out]; exact hN, hrb, hrl, O⟩
set_option maxRecDepth 100000 in
theorem slong_calls (w : World) : Calls Tryz.prog 164 #[] w (GivesI w longBits) := by
  go_enter Tryz.func164, Tryz.ntmps164
  go_wp2_with fail
  go_ret
  exact ⟨w.heap.size, 28, rfl, Nums.new w _ longBits rfl (by decide), Nat.le_refl _, (Blk.new w _ _).lt, (On.refl w).alloc _⟩
set_option maxRecDepth 100000 in
theorem sback_calls (w : World) : Calls Tryz.prog 165 #[] w (GivesI w backBits) := by
  go_enter Tryz.func165, Tryz.ntmps165
  go_wp2_with fail
  go_ret
  exact ⟨w.heap.size, 30, rfl, Nums.new w _ backBits rfl (by decide), Nat.le_refl _, (Blk.new w _ _).lt, (On.refl w).alloc _⟩
/-- The symbol of a number: the last whose least number is not above it. -/
structure IsSym (b : List Nat) (n k : Nat) : Prop where
  lt : k < b.length
  le : b.getD k 0 ≤ n
  next : ∀ j, k < j → j < b.length → n < b.getD j 0
def Rising (b : List Nat) : Prop := b.Pairwise (· < ·)
theorem rising_lt {b : List Nat} (h : Rising b) {i j : Nat} (hij : i < j) (hj : j < b.length) : b.getD i 0 < b.getD j 0 := by
  have := (List.pairwise_iff_getElem.1 h) i j (by omega) hj hij
  rw [List.getD_eq_getElem?_getD, List.getD_eq_getElem?_getD, List.getElem?_eq_getElem hj, List.getElem?_eq_getElem (show i < b.length by omega)]
  exact this
theorem lad_is {b : List Nat} {n k : Nat} (h : Rising b) (H : IsSym b n k) : lad b n = k := by
  have e : b.filter (fun x => decide (x ≤ n)) = b.take (k + 1) := by
    conv => lhs; rw [← List.take_append_drop (k + 1) b, List.filter_append]
    have h1 : (b.take (k + 1)).filter (fun x => decide (x ≤ n)) = b.take (k + 1) := by
      rw [List.filter_eq_self]
      intro x hx
      obtain ⟨i, hi, rfl⟩ := List.mem_iff_getElem.1 hx
      rw [List.length_take] at hi
      rw [List.getElem_take]
      have h2 : b.getD i 0 = b[i] := by rw [List.getD_eq_getElem?_getD, List.getElem?_eq_getElem (by omega)]; rfl
      rw [← h2, decide_eq_true_iff]
      by_cases e : i = k
      · rw [e]; exact H.le
      · have := rising_lt h (show i < k by omega) H.lt
        have := H.le
        omega
    have h2 : (b.drop (k + 1)).filter (fun x => decide (x ≤ n)) = [] := by
      rw [List.filter_eq_nil_iff]
      intro x hx
      obtain ⟨i, hi, rfl⟩ := List.mem_iff_getElem.1 hx
      rw [List.length_drop] at hi
      rw [List.getElem_drop]
      have h2 : b.getD (k + 1 + i) 0 = b[k + 1 + i] := by rw [List.getD_eq_getElem?_getD, List.getElem?_eq_getElem (by omega)]; rfl
      rw [← h2, decide_eq_true_iff]
      have := H.next (k + 1 + i) (by omega) (by omega)
      omega
    rw [h1, h2, List.append_nil]
  unfold lad
  rw [e, List.length_take]
  have := H.lt
  omega
theorem long_rising : Rising longBase := by unfold Rising; decide +kernel
theorem back_rising : Rising backBase := by unfold Rising; decide +kernel
set_option maxRecDepth 100000 in
set_option maxHeartbeats 1000000 in
theorem ssym_calls (b : List Nat) (g n cap m : Nat) (w : World) (hR : RowO w g 0 3 (i64s b)) (hl : b.length = n) (hn : n ≤ 1000) (hc : n ≤ cap) (h0 : 1 ≤ n) (hm : b.getD 0 0 ≤ m) (hr : Rising b) (hm2 : m ≤ 100000) :
    Calls Tryz.prog 167 #[.slice (some ⟨g, 0, none⟩) n cap, .int .i64 m] w (Tells w (.int .i64 (lad b m : Nat))) := by
  have HL := Lib.hid hl
  have HR := Lib.hid hr
  have H0 := Lib.hid hm
  clear hl hr hm
  go_enter Tryz.func167, Tryz.ntmps167
  go_wp2_with fail
  go_loopw [5] (fun x wr => ∃ k : Nat, x = .int .i64 (k : Int) ∧ k < n ∧ RowKit.Hid (b.getD k 0 ≤ m) ∧ On w wr) (fun x _ => n - (intOf x).toNat)
  case atStart => exact ⟨0, rfl, h0, H0, On.refl _⟩
  case round =>
    obtain ⟨k, rfl, hk, hle, O⟩ := hrel
    by_cases hlt : k + 1 < n
    · have c0 : wr.cell? ⟨g, k + 1, none⟩ = some (.int .i64 (b.getD (k + 1) 0 : Nat)) := by
        have := (hR.on O).cell (i64s_get (show k + 1 < b.length by rw [HL.out]; exact hlt))
        rwa [Nat.zero_add] at this
      have h1 : (k : Int) + 1 < n := by omega
      have h2 : IntKind.i64.wrap ((k : Int) + 1) = ((k + 1 : Nat) : Int) := by rw [IntKind.wrap_i64]; omega
      have hup := fun j (h : k + 1 ≤ j) (hj : j < b.length) (hx : m < b.getD (k + 1) 0) => (show m < b.getD j 0 by
        by_cases e : j = k + 1
        · rw [e]; exact hx
        · have := rising_lt HR.out (show k + 1 < j by omega) hj; omega)
      have HUP := Lib.hid hup
      clear hup
      generalize hxx : b.getD (k + 1) 0 = x at *
      have HXX := Lib.hid hxx
      clear hxx
      by_cases hx : x ≤ m
      · have hx' : (x : Int) ≤ m := by omega
        go_wp2_with fail
        exact ⟨⟨k + 1, by go_num, hlt, Lib.hid (by rw [HXX.out]; exact hx), O⟩, by simp [intOf]; omega⟩
      · have hx' : (m : Int) < x := by omega
        go_wp2_with fail
        go_ret
        refine ⟨?_, O⟩
        show Ending.returned (.int .i64 _) = _
        rw [lad_is HR.out ⟨by rw [HL.out]; exact hk, hle.out, fun j hj hj2 => HUP.out j (by omega) hj2 (by omega)⟩]
    · obtain rfl : n = k + 1 := by omega
      go_wp2_with fail
      go_ret
      refine ⟨?_, O⟩
      show Ending.returned (.int .i64 _) = _
      rw [lad_is HR.out ⟨by rw [HL.out]; exact hk, hle.out, fun j hj hj2 => by rw [HL.out] at hj2; omega⟩]
set_option maxRecDepth 100000 in
set_option maxHeartbeats 1000000 in
theorem find_calls (b : List Nat) (g n cap m : Nat) (v2 : Value) (w : World) (hR : RowO w g 0 3 (i64s b)) (hl : b.length = n) (hn : n ≤ 1000) (hc : n ≤ cap) (h0 : 1 ≤ n) (hm : b.getD 0 0 ≤ m) (hr : Rising b) (hm2 : m ≤ 100000) (hv : ∃ g2 c2, v2 = .slice (some ⟨g2, 0, none⟩) n c2) :
    Calls Tryz.prog 110 #[.agg #[.slice (some ⟨g, 0, none⟩) n cap, v2], .int .i64 m] w (Tells w (.int .i64 (lad b m : Nat))) := by
  obtain ⟨g2, c2, rfl⟩ := hv
  have HL := Lib.hid hl
  have HR := Lib.hid hr
  have H0 := Lib.hid hm
  clear hl hr hm
  go_enter Tryz.func110, Tryz.ntmps110
  go_wp2_with fail
  have O1 := (On.refl w).alloc (.cells #[.slice (some ⟨g, 0, none⟩) n cap, .slice (some ⟨g2, 0, none⟩) n c2] 119)
  have B1 := Blk.new w 119 #[.slice (some ⟨g, 0, none⟩) n cap, .slice (some ⟨g2, 0, none⟩) n c2]
  generalize w.alloc (.cells #[.slice (some ⟨g, 0, none⟩) n cap, .slice (some ⟨g2, 0, none⟩) n c2] 119) = w1 at *
  have R1 := hR.on O1
  generalize w.heap.size = B at *
  have k0 : w1.cell? ⟨B, 0, none⟩ = some (.slice (some ⟨g, 0, none⟩) n cap) := (B1.cell 0).trans rfl
  go_loop [5] (fun x => ∃ k : Nat, x = .int .i64 (k : Int) ∧ k < n ∧ RowKit.Hid (∀ j, k < j → j < b.length → m < b.getD j 0)) (fun x => (intOf x).toNat)
  case atStart => exact ⟨n - 1, by congr 1; omega, by omega, Lib.hid (fun j hj hj2 => by rw [HL.out] at hj2; omega)⟩
  case round =>
    obtain ⟨k, rfl, hk, hnx⟩ := hrel
    have c0 : w1.cell? ⟨g, k, none⟩ = some (.int .i64 (b.getD k 0 : Nat)) := by
      have := R1.cell (i64s_get (show k < b.length by rw [HL.out]; exact hk))
      rwa [Nat.zero_add] at this
    have h0k : m < b.getD k 0 → 0 < k := fun h => by
      rcases Nat.eq_zero_or_pos k with e | e
      · subst e; have := H0.out; omega
      · exact e
    have H0K := Lib.hid h0k
    clear h0k
    generalize hxx : b.getD k 0 = x at *
    have HXX := Lib.hid hxx
    clear hxx
    have hk0 : (0 : Int) ≤ k := by omega
    have hk1 : (k : Int) < n := by omega
    by_cases hx : m < x
    · have hx' : (m : Int) < x := by omega
      have hkp := H0K.out hx
      obtain ⟨k', rfl⟩ : ∃ k', k = k' + 1 := ⟨k - 1, by omega⟩
      go_wp2_with fail
      go_round
      case rel =>
        refine ⟨k', by go_num, by omega, Lib.hid (fun j hj hj2 => ?_)⟩
        by_cases e : j = k' + 1
        · rw [e, HXX.out]; exact hx
        · exact hnx.out j (by omega) hj2
      case measure => simp [intOf]
    · have hx' : ¬ (m : Int) < x := by omega
      go_wp2_with fail
      go_ret
      refine ⟨?_, O1⟩
      show Ending.returned (.int .i64 _) = _
      rw [lad_is HR.out ⟨by rw [HL.out]; exact hk, by rw [HXX.out]; omega, hnx.out⟩]
end Go.Proofs.YtnadjlejlohgiaaGreatDoor.Wi

