/- Own texts joined: WLad, WLad2. -/
import Derived.Deep.DeepCutAuto
import Derived.Test.YtnadjlejlohgiaaGreatDoorW11
import Derived.Test.YtnadjlejlohgiaaGreatDoorW13
/- The symbols of lengths and distances, in both programs: their least numbers, their bits, which one a number has. -/
namespace Go.Proofs.YtnadjlejlohgiaaGreatDoor.Wi
open Go.RowKit Go.Proofs.YtnadjlejlohgiaaGreatDoor.Mem Go.Proofs.YtnadjlejlohgiaaGreatDoor.Bt Go.Proofs.YtnadjlejlohgiaaGreatDoor.Cd Go.Proofs.YtnadjlejlohgiaaGreatDoor.De Go.Proofs.YtnadjlejlohgiaaGreatDoor.En
set_option linter.unusedVariables false
set_option linter.unusedSimpArgs false
/-- A row of numbers after an append. -/
theorem nums_app {wr w1 : World} {r : Nat} {v v' : Value} {l : List Nat} {x : Nat} (h : Nums wr r v l)
    (hown : w1.ownsRow 0 3 1 v' (l.length + 1) (i64s l ++ (#[.int .i64 (x : Int)] : Array Value).toList)) (hg : wr.grownBy w1 v.ownBlock) (hne : v' ≠ .slice none 0 0) (hat : ∀ k, v'.ownBlock = some k → v.ownBlock = some k ∨ wr.heap.size ≤ k) :
    ∃ r2 cap, v' = .slice (some ⟨r2, 0, none⟩) (l.length + 1) cap ∧ Nums w1 r2 v' (l ++ [x]) ∧ (r2 = r ∨ wr.heap.size ≤ r2) ∧ r2 < w1.heap.size ∧ Kp [r] wr w1 ∧ l.length + 1 ≤ cap ∧ cap ≤ maxLen := by
  have e : i64s l ++ (#[.int .i64 (x : Int)] : Array Value).toList = i64s (l ++ [x]) := by unfold i64s; rw [List.map_append]; rfl
  rw [e] at hown
  rcases hown.2 with ⟨h0, _⟩ | ⟨k, cap, cur, hv, _, hh, h1, h2, h3, h4⟩
  · exact absurd h0 hne
  · have hb : v'.ownBlock = some k := by rw [hv]; rfl
    have hk : k = r ∨ wr.heap.size ≤ k := by
      rcases hat k hb with a | a
      · exact .inl (h.at_ k a)
      · exact .inr a
    refine ⟨k, cap, hv, ⟨by simpa using hown, fun j hj => by rw [hb] at hj; cases hj; rfl⟩, hk, ?_, ?_, h1, h2⟩
    · rcases Nat.lt_or_ge k w1.heap.size with hl | hl
      · exact hl
      · rw [Array.getElem?_eq_none hl] at hh; cases hh
    · exact Kp.grown hg (fun j hj => by rw [h.at_ j hj]; simp)
/-- l = append(l, x): one number more. -/
theorem wpList_nat {ops : Array Oper} {rest : List Oper} {o : Oper} {act : Act} {Q : Exit → Act → World → Prop} {wr : World} (hgd : o.guard = none) (s y : Operand)
    (ho : o.op = .call { callee := .builtin .append, args := #[s, y], argTypes := #[98, 98] })
    {r : Nat} {v : Value} {l : List Nat} {x : Nat} (hs : act.eval s = v) (hby : Nums wr r v l) (hx : act.eval y = .slice (some ⟨wr.heap.size, 0, none⟩) 1 1) (hl : l.length ≤ 1000000)
    (h : ∀ r2 cap w1, Nums w1 r2 (.slice (some ⟨r2, 0, none⟩) (l.length + 1) cap) (l ++ [x]) → (r2 = r ∨ wr.heap.size ≤ r2) → r2 < w1.heap.size → Kp [r] wr w1 → l.length + 1 ≤ cap → cap ≤ maxLen →
      wpList Tryz.prog ops Q rest (act.put o.dst (.slice (some ⟨r2, 0, none⟩) (l.length + 1) cap)) w1) :
    wpList Tryz.prog ops Q (o :: rest) act (wr.alloc (.cells #[.int .i64 (x : Int)] 3)) := by
  obtain ⟨i0, hi, hz0, hz1, hz2⟩ := info_parts i64info
  refine wpList_app_at hgd s y 98 ho i0 (.int .i64 0) 8 1 Tryz.underlying98 hi hz0 hz1 hz2 rfl (by decide) rfl v _ _ hs hby.own hx (by simp [Value.oneCell']) (by unfold maxLen; omega) (by omega) ?_
  intro v' w1 hown' hg' hne' hat'
  obtain ⟨r2, cap2, rfl, hby2, hr2, hrl2, K2, hc1, hc2⟩ := nums_app hby hown' hg' hne' hat'
  exact h r2 cap2 w1 hby2 hr2 hrl2 K2 hc1 hc2
theorem Nums.nil (w : World) (r : Nat) : Nums w r (.slice none 0 0) [] := ⟨World.ownsRow_nil _ _ _ _, fun g hg => by simp [Value.ownBlock] at hg⟩
theorem Nums.new (w : World) (cs : Array Value) (l : List Nat) (h : cs.toList = i64s l) (hl : l.length ≤ 1000000) : Nums (w.alloc (.cells cs 3)) w.heap.size (.slice (some ⟨w.heap.size, 0, none⟩) l.length l.length) l := by
  have hs : cs.size = l.length := by rw [← Array.length_toList, h, i64s_length]
  refine ⟨?_, fun g hg => by simp [Value.ownBlock] at hg; exact hg.symm⟩
  have := World.ownsRow_lit w (base := 0) (e := 3) (size := 1) cs l.length (Nat.zero_le _) (by unfold maxLen; omega) (by rw [hs]; omega)
  rw [h] at this
  exact this
theorem base_snoc : ∀ (l : List Nat) (n x : Nat), base n (l ++ [x]) = base n l ++ [n + ((l.map fun b => 2 ^ b).sum)]
  | [], n, x => by simp [base]
  | b :: l, n, x => by
    rw [List.cons_append, base, base_snoc l, base, List.cons_append, List.map_cons, List.sum_cons]
    congr 3; omega
theorem base_length : ∀ (l : List Nat) (n : Nat), (base n l).length = l.length
  | [], _ => rfl
  | b :: l, n => by rw [base, List.length_cons, base_length l, List.length_cons]
theorem sum_take_succ (l : List Nat) {k : Nat} (h : k < l.length) : (((l.take (k + 1)).map fun b => 2 ^ b).sum) = (((l.take k).map fun b => 2 ^ b).sum) + 2 ^ l.getD k 0 := by
  rw [List.take_succ_eq_append_getElem h, List.map_append, List.sum_append_nat, List.getD_eq_getElem?_getD, List.getElem?_eq_getElem h]; simp
theorem sum_take_le (l : List Nat) (h : ∀ x ∈ l, x ≤ 13) : ∀ k, (((l.take k).map fun b => 2 ^ b).sum) ≤ 8192 * k
  | 0 => by simp
  | k + 1 => by
    have ih := sum_take_le l h k
    by_cases hk : k < l.length
    · rw [sum_take_succ l hk]
      have := pow_le (getD_le h k)
      omega
    · rw [List.take_of_length_le (by omega)]
      rw [List.take_of_length_le (by omega)] at ih
      omega
theorem base_take (l : List Nat) (n : Nat) {k : Nat} (h : k < l.length) : base n (l.take (k + 1)) = base n (l.take k) ++ [n + (((l.take k).map fun b => 2 ^ b).sum)] := by
  rw [List.take_succ_eq_append_getElem h, base_snoc]
set_option maxRecDepth 100000 in
set_option maxHeartbeats 1000000 in
theorem sbase_calls (l : List Nat) (g o n cap from_ : Nat) (w : World) (hR : RowO w g o 3 (i64s l)) (hl : l.length = n) (hn : n ≤ 1000) (hc : n ≤ cap) (h13 : ∀ x ∈ l, x ≤ 13) (hf : from_ ≤ 10) :
    Calls Tryz.prog 163 #[.slice (some ⟨g, o, none⟩) n cap, .int .i64 from_] w (GivesI w (base from_ l)) := by
  have HL := Lib.hid hl
  have H13 := Lib.hid h13
  clear hl h13
  have hg1 := hR.lt
  go_enter Tryz.func163, Tryz.ntmps163
  go_wp2_with fail
  have N0 := Nums.new w #[] [] rfl (by simp)
  have O0 := (On.refl w).alloc (.cells #[] 3)
  go_loopw [1, 5, 6] (fun f v x wr => ∃ (k r c : Nat), x = .int .i64 (k : Int) ∧ k ≤ n ∧ f = .int .i64 ((from_ + (((l.take k).map fun b => 2 ^ b).sum) : Nat) : Int) ∧ v = .slice (some ⟨r, 0, none⟩) k c ∧ Nums wr r (.slice (some ⟨r, 0, none⟩) k c) (base from_ (l.take k)) ∧ w.heap.size ≤ r ∧ r < wr.heap.size ∧ On w wr) (fun _ _ x _ => n - (intOf x).toNat)
  case atStart => exact ⟨0, w.heap.size, 0, rfl, by omega, rfl, rfl, N0, Nat.le_refl _, (Blk.new w _ _).lt, O0⟩
  case round =>
    obtain ⟨k, r, c, rfl, hk, rfl, rfl, hN, hrb, hrl, O⟩ := hrel
    by_cases hlt : k < n
    · have hkl : k < l.length := by rw [HL.out]; exact hlt
      have hsum := sum_take_le l H13.out k
      have hst := sum_take_succ l hkl
      have hbt := base_take l from_ hkl
      have hlen : (base from_ (l.take k)).length = k := by rw [base_length, List.length_take]; omega
      have hb13 := getD_le H13.out k
      have hpw := pow_le hb13
      have c0 : wr.cell? ⟨g, o + k, none⟩ = some (.int .i64 (l.getD k 0 : Nat)) := (hR.on O).cell (i64s_get hkl)
      obtain ⟨P, hP⟩ : ∃ P, 2 ^ l.getD k 0 = P := ⟨_, rfl⟩
      have hpc := fun w => pow_same (l.getD k 0) P (Lib.hid hP) (by omega) w
      rw [hP] at hst hpw
      have HPC := Lib.hid hpc
      clear hP hpc
      generalize l.getD k 0 = b at *
      generalize hs : ((l.take k).map fun b => 2 ^ b).sum = s at *
      have hfs : from_ + s + P = from_ + (s + P) := by omega
      have hfs2 : from_ + s ≤ 9000000 := by omega
      generalize hfv : from_ + s = fs at *
      have HFS := Lib.hid hfs
      have HSS := Lib.hid hs
      have HFV := Lib.hid hfv
      clear hs hfv hfs
      have HST := Lib.hid hst
      have HBT := Lib.hid hbt
      have HLEN := Lib.hid hlen
      have hl2 : (base from_ (l.take k)).length ≤ 1000000 := by omega
      clear hst hbt hlen
      have hgr : g ≠ r := by omega
      have HGR := Lib.hid hgr
      clear hgr
      have hN0 := hN
      go_wp2_with (at_builtin; go_must (refine wpList_nat (x := fs) rfl _ _ rfl rfl hN rfl hl2 ?_); intro r2 c2 w1 hN1 hr2 hrl2 K2 hc1 hc2; have d0 : w1.cell? ⟨g, o + k, none⟩ = some (.int .i64 (b : Int)) := (K2.cell (World.block_lt_of_cell? wr _ c0) (by simpa using HGR.out)).trans c0; clear c0)
      refine (HPC.out _).mono ?_
      rintro e w2 ⟨rfl, hw⟩
      obtain rfl : w1 = w2 := hw.symm
      go_wp2_with fail
      rw [HLEN.out] at hN1
      have O1 : On w w1 := K2.on O (fun x hx => by simp at hx; omega)
      rw [← HBT.out] at hN1
      refine ⟨⟨k + 1, r2, c2, by go_num, by omega, by rw [HST.out, ← HFS.out]; go_num, by rw [HLEN.out], hN1, by have := O.size; omega, hrl2, O1⟩, by simp [intOf]; omega⟩
    · obtain rfl : k = n := by omega
      have hlen : (base from_ l).length = k := by rw [base_length, HL.out]
      have ht : l.take k = l := List.take_of_length_le (by rw [HL.out]; exact Nat.le_refl _)
      rw [ht] at hN
      have HLEN := Lib.hid hlen
      clear hlen ht
      go_wp2_with fail
      go_ret
      exact ⟨r, c, by rw [HLEN.out]; rfl, by rw [HLEN.out]; exact hN, hrb, hrl, O⟩
set_option maxRecDepth 100000 in
theorem slong_calls (w : World) : Calls Tryz.prog 164 #[] w (GivesI w longBits) := by
  go_enter Tryz.func164, Tryz.ntmps164
  go_wp2_with fail
  go_ret
  exact ⟨w.heap.size, 28, rfl, Nums.new w _ longBits rfl (by decide), Nat.le_refl _, (Blk.new w _ _).lt, (On.refl w).alloc _⟩
set_option maxRecDepth 100000 in
theorem sback_calls (w : World) : Calls Tryz.prog 165 #[] w (GivesI w backBits) := by
  go_enter Tryz.func165, Tryz.ntmps165
  go_wp2_with fail
  go_ret
  exact ⟨w.heap.size, 30, rfl, Nums.new w _ backBits rfl (by decide), Nat.le_refl _, (Blk.new w _ _).lt, (On.refl w).alloc _⟩
/-- The symbol of a number: the last whose least number is not above it. -/
structure IsSym (b : List Nat) (n k : Nat) : Prop where
  lt : k < b.length
  le : b.getD k 0 ≤ n
  next : ∀ j, k < j → j < b.length → n < b.getD j 0
def Rising (b : List Nat) : Prop := b.Pairwise (· < ·)
theorem rising_lt {b : List Nat} (h : Rising b) {i j : Nat} (hij : i < j) (hj : j < b.length) : b.getD i 0 < b.getD j 0 := by
  have := (List.pairwise_iff_getElem.1 h) i j (by omega) hj hij
  rw [List.getD_eq_getElem?_getD, List.getD_eq_getElem?_getD, List.getElem?_eq_getElem hj, List.getElem?_eq_getElem (show i < b.length by omega)]
  exact this
theorem lad_is {b : List Nat} {n k : Nat} (h : Rising b) (H : IsSym b n k) : lad b n = k := by
  have e : b.filter (fun x => decide (x ≤ n)) = b.take (k + 1) := by
    conv => lhs; rw [← List.take_append_drop (k + 1) b, List.filter_append]
    have h1 : (b.take (k + 1)).filter (fun x => decide (x ≤ n)) = b.take (k + 1) := by
      rw [List.filter_eq_self]
      intro x hx
      obtain ⟨i, hi, rfl⟩ := List.mem_iff_getElem.1 hx
      rw [List.length_take] at hi
      rw [List.getElem_take]
      have h2 : b.getD i 0 = b[i] := by rw [List.getD_eq_getElem?_getD, List.getElem?_eq_getElem (by omega)]; rfl
      rw [← h2, decide_eq_true_iff]
      by_cases e : i = k
      · rw [e]; exact H.le
      · have := rising_lt h (show i < k by omega) H.lt
        have := H.le
        omega
    have h2 : (b.drop (k + 1)).filter (fun x => decide (x ≤ n)) = [] := by
      rw [List.filter_eq_nil_iff]
      intro x hx
      obtain ⟨i, hi, rfl⟩ := List.mem_iff_getElem.1 hx
      rw [List.length_drop] at hi
      rw [List.getElem_drop]
      have h2 : b.getD (k + 1 + i) 0 = b[k + 1 + i] := by rw [List.getD_eq_getElem?_getD, List.getElem?_eq_getElem (by omega)]; rfl
      rw [← h2, decide_eq_true_iff]
      have := H.next (k + 1 + i) (by omega) (by omega)
      omega
    rw [h1, h2, List.append_nil]
  unfold lad
  rw [e, List.length_take]
  have := H.lt
  omega
theorem long_rising : Rising longBase := by unfold Rising; decide +kernel
theorem back_rising : Rising backBase := by unfold Rising; decide +kernel
set_option maxRecDepth 100000 in
set_option maxHeartbeats 1000000 in
theorem ssym_calls (b : List Nat) (g n cap m : Nat) (w : World) (hR : RowO w g 0 3 (i64s b)) (hl : b.length = n) (hn : n ≤ 1000) (hc : n ≤ cap) (h0 : 1 ≤ n) (hm : b.getD 0 0 ≤ m) (hr : Rising b) (hm2 : m ≤ 100000) :
    Calls Tryz.prog 167 #[.slice (some ⟨g, 0, none⟩) n cap, .int .i64 m] w (Tells w (.int .i64 (lad b m : Nat))) := by
  have HL := Lib.hid hl
  have HR := Lib.hid hr
  have H0 := Lib.hid hm
  clear hl hr hm
  go_enter Tryz.func167, Tryz.ntmps167
  go_wp2_with fail
  go_loopw [5] (fun x wr => ∃ k : Nat, x = .int .i64 (k : Int) ∧ k < n ∧ RowKit.Hid (b.getD k 0 ≤ m) ∧ On w wr) (fun x _ => n - (intOf x).toNat)
  case atStart => exact ⟨0, rfl, h0, H0, On.refl _⟩
  case round =>
    obtain ⟨k, rfl, hk, hle, O⟩ := hrel
    by_cases hlt : k + 1 < n
    · have c0 : wr.cell? ⟨g, k + 1, none⟩ = some (.int .i64 (b.getD (k + 1) 0 : Nat)) := by
        have := (hR.on O).cell (i64s_get (show k + 1 < b.length by rw [HL.out]; exact hlt))
        rwa [Nat.zero_add] at this
      have h1 : (k : Int) + 1 < n := by omega
      have h2 : IntKind.i64.wrap ((k : Int) + 1) = ((k + 1 : Nat) : Int) := by rw [IntKind.wrap_i64]; omega
      have hup := fun j (h : k + 1 ≤ j) (hj : j < b.length) (hx : m < b.getD (k + 1) 0) => (show m < b.getD j 0 by
        by_cases e : j = k + 1
        · rw [e]; exact hx
        · have := rising_lt HR.out (show k + 1 < j by omega) hj; omega)
      have HUP := Lib.hid hup
      clear hup
      generalize hxx : b.getD (k + 1) 0 = x at *
      have HXX := Lib.hid hxx
      clear hxx
      by_cases hx : x ≤ m
      · have hx' : (x : Int) ≤ m := by omega
        go_wp2_with fail
        exact ⟨⟨k + 1, by go_num, hlt, Lib.hid (by rw [HXX.out]; exact hx), O⟩, by simp [intOf]; omega⟩
      · have hx' : (m : Int) < x := by omega
        go_wp2_with fail
        go_ret
        refine ⟨?_, O⟩
        show Ending.returned (.int .i64 _) = _
        rw [lad_is HR.out ⟨by rw [HL.out]; exact hk, hle.out, fun j hj hj2 => HUP.out j (by omega) hj2 (by omega)⟩]
    · obtain rfl : n = k + 1 := by omega
      go_wp2_with fail
      go_ret
      refine ⟨?_, O⟩
      show Ending.returned (.int .i64 _) = _
      rw [lad_is HR.out ⟨by rw [HL.out]; exact hk, hle.out, fun j hj hj2 => by rw [HL.out] at hj2; omega⟩]
end Go.Proofs.YtnadjlejlohgiaaGreatDoor.Wi

/- The program's ladders of symbols. -/
namespace Go.Proofs.YtnadjlejlohgiaaGreatDoor.Wi
open Go.RowKit Go.Proofs.YtnadjlejlohgiaaGreatDoor.Mem Go.Proofs.YtnadjlejlohgiaaGreatDoor.Bt Go.Proofs.YtnadjlejlohgiaaGreatDoor.Cd Go.Proofs.YtnadjlejlohgiaaGreatDoor.De Go.Proofs.YtnadjlejlohgiaaGreatDoor.En
set_option linter.unusedVariables false
set_option linter.unusedSimpArgs false
/-- Two rows of numbers whose heads lie in one block. -/
structure Two (w : World) (B : Nat) (v1 v2 : Value) (l1 l2 : List Nat) : Prop where
  b : Blk w B 119 #[v1, v2]
  o1 : w.ownsRow 0 3 1 v1 l1.length (i64s l1)
  o2 : w.ownsRow 0 3 1 v2 l2.length (i64s l2)
  d1 : ∀ k, v1.ownBlock = some k → k ≠ B
  d2 : ∀ k, v2.ownBlock = some k → k ≠ B
  d : ∀ k, v1.ownBlock = some k → v2.ownBlock ≠ some k
theorem i64s_snoc (l : List Nat) (x : Nat) : i64s l ++ (#[.int .i64 (x : Int)] : Array Value).toList = i64s (l ++ [x]) := by unfold i64s; rw [List.map_append]; rfl
theorem own_set {w : World} {p : Addr} {u : Value} {v : Value} {n : Nat} {xs : List Value} (h : w.ownsRow 0 3 1 v n xs) (hd : ∀ k, v.ownBlock = some k → k ≠ p.block) : (w.setCell p u).ownsRow 0 3 1 v n xs :=
  ((Kp.refl [p.block] w).set (p := p) (.inl (by simp)) u).owns h (fun g hg => by simpa using hd g hg)
theorem Two.first {w w1 : World} {B : Nat} {v1 v2 v' : Value} {l1 l2 : List Nat} {x : Nat} (h : Two w B v1 v2 l1 l2) (hown : w1.ownsRow 0 3 1 v' (l1.length + 1) (i64s l1 ++ (#[.int .i64 (x : Int)] : Array Value).toList)) (hg : w.grownBy w1 v1.ownBlock)
    (hat : ∀ k, v'.ownBlock = some k → v1.ownBlock = some k ∨ w.heap.size ≤ k) : Two (w1.setCell ⟨B, 0, none⟩ v') B v' v2 (l1 ++ [x]) l2 := by
  rw [i64s_snoc] at hown
  have hb := h.b.lt
  have hk : ∀ k, v'.ownBlock = some k → k ≠ B := fun k e => by
    rcases hat k e with a | a
    · exact h.d1 k a
    · omega
  have hB : some B ≠ v1.ownBlock := fun e => h.d1 B e.symm rfl
  refine ⟨(h.b.grown hg hB).set 0 v', by rw [List.length_append, List.length_singleton]; exact own_set hown hk, own_set (h.o2.kept hg ?_) h.d2, hk, h.d2, fun k e => ?_⟩
  · by_cases e : v2.ownBlock = none
    · exact .inl e
    · refine .inr (fun e2 => ?_)
      obtain ⟨k, hk2⟩ := Option.ne_none_iff_exists'.1 e
      exact h.d k (e2 ▸ hk2) hk2
  · intro e2
    rcases hat k e with a | a
    · exact h.d k a e2
    · have := (h.o2.lt k e2).2; omega
theorem Two.second {w w1 : World} {B : Nat} {v1 v2 v' : Value} {l1 l2 : List Nat} {x : Nat} (h : Two w B v1 v2 l1 l2) (hown : w1.ownsRow 0 3 1 v' (l2.length + 1) (i64s l2 ++ (#[.int .i64 (x : Int)] : Array Value).toList)) (hg : w.grownBy w1 v2.ownBlock)
    (hat : ∀ k, v'.ownBlock = some k → v2.ownBlock = some k ∨ w.heap.size ≤ k) : Two (w1.setCell ⟨B, 1, none⟩ v') B v1 v' l1 (l2 ++ [x]) := by
  rw [i64s_snoc] at hown
  have hb := h.b.lt
  have hk : ∀ k, v'.ownBlock = some k → k ≠ B := fun k e => by
    rcases hat k e with a | a
    · exact h.d2 k a
    · omega
  have hB : some B ≠ v2.ownBlock := fun e => h.d2 B e.symm rfl
  refine ⟨(h.b.grown hg hB).set 1 v', own_set (h.o1.kept hg ?_) h.d1, by rw [List.length_append, List.length_singleton]; exact own_set hown hk, h.d1, hk, fun k e e2 => ?_⟩
  · by_cases e : v1.ownBlock = none
    · exact .inl e
    · refine .inr (fun e2 => ?_)
      obtain ⟨k, hk2⟩ := Option.ne_none_iff_exists'.1 e
      exact h.d k hk2 (e2 ▸ hk2)
  · rcases hat k e2 with a | a
    · exact h.d k e a
    · have := (h.o1.lt k e).2; omega
theorem Two.on {w w1 : World} {B : Nat} {v1 v2 : Value} {l1 l2 : List Nat} (h : Two w B v1 v2 l1 l2) (O : On w w1) : Two w1 B v1 v2 l1 l2 := ⟨h.b.call O.out, own_on h.o1 O, own_on h.o2 O, h.d1, h.d2, h.d⟩
theorem own_slice {w : World} {v : Value} {n : Nat} {xs : List Value} (h : w.ownsRow 0 3 1 v n xs) (hne : v ≠ .slice none 0 0) : ∃ g cap, v = .slice (some ⟨g, 0, none⟩) n cap := by
  rcases h.2 with ⟨h0, _⟩ | ⟨g, c, cur, hv, _⟩
  · exact absurd h0 hne
  · exact ⟨g, c, hv⟩
def bitsL (many plain each : Nat) : List Nat := (List.range many).map fun k => if k < plain then 0 else (k - plain) / each + 1
theorem bitsL_long : bitsL 28 8 4 = longBits := by decide
theorem bitsL_back : bitsL 30 4 2 = backBits := by decide
theorem bitsL_getD (many plain each k : Nat) (h : k < many) : (bitsL many plain each).getD k 0 = if k < plain then 0 else (k - plain) / each + 1 := by
  unfold bitsL; rw [List.getD_eq_getElem?_getD, List.getElem?_map, List.getElem?_range h]; rfl
theorem bitsL_length (many plain each : Nat) : (bitsL many plain each).length = many := by simp [bitsL]
theorem take_succ_getD (l : List Nat) {k : Nat} (h : k < l.length) : l.take (k + 1) = l.take k ++ [l.getD k 0] := by
  rw [List.take_succ_eq_append_getElem h, List.getD_eq_getElem?_getD, List.getElem?_eq_getElem h]; rfl
/-- What a contract tells that makes a ladder. -/
def GivesL (w : World) (b : List Nat) (n : Nat) (f : Nat) (e : Ending) (w' : World) : Prop := ∃ r1 c1 r2 c2, e = .returned (.agg #[.slice (some ⟨r1, 0, none⟩) n c1, .slice (some ⟨r2, 0, none⟩) n c2]) ∧ RowO w' r1 0 3 (i64s (base f b)) ∧ RowO w' r2 0 3 (i64s b) ∧ n ≤ c1 ∧ n ≤ c2 ∧ w.heap.size ≤ r1 ∧ w.heap.size ≤ r2 ∧ On w w'
theorem two_rows {w : World} {B : Nat} {v1 v2 : Value} {l1 l2 : List Nat} (h : Two w B v1 v2 l1 l2) (h1 : l1 ≠ []) (h2 : l2 ≠ []) : ∃ r1 c1 r2 c2, v1 = .slice (some ⟨r1, 0, none⟩) l1.length c1 ∧ v2 = .slice (some ⟨r2, 0, none⟩) l2.length c2 ∧ RowO w r1 0 3 (i64s l1) ∧ RowO w r2 0 3 (i64s l2) ∧ l1.length ≤ c1 ∧ l2.length ≤ c2 := by
  rcases h.o1.2 with ⟨_, h0⟩ | ⟨g, c, cur, hv, _, hh, a1, a2, a3, a4⟩
  · exact absurd (List.length_eq_zero_iff.1 h0) h1
  · rcases h.o2.2 with ⟨_, h0⟩ | ⟨g', c', cur', hv', _, hh', b1, b2, b3, b4⟩
    · exact absurd (List.length_eq_zero_iff.1 h0) h2
    · exact ⟨g, c, g', c', hv, hv', (Row.mk ⟨cur, ⟨hh⟩, by rw [h.o1.1]; exact a4⟩).toO, (Row.mk ⟨cur', ⟨hh'⟩, by rw [h.o2.1]; exact b4⟩).toO, a1, b1⟩
set_option maxRecDepth 100000 in
set_option maxHeartbeats 2000000 in
theorem ladder_calls (f many plain each : Nat) (w : World) (hf : f ≤ 10) (hm : many ≤ 100) (hm1 : 1 ≤ many) (he : 1 ≤ each) (he2 : each ≤ 100) (hp : plain ≤ 100) (h13 : ∀ x ∈ bitsL many plain each, x ≤ 13) :
    Calls Tryz.prog 129 #[.int .i64 f, .int .i64 many, .int .i64 plain, .int .i64 each] w (GivesL w (bitsL many plain each) many f) := by
  have hbl := bitsL_length many plain each
  have hbg := bitsL_getD many plain each
  generalize bitsL many plain each = l at *
  have HL := Lib.hid hbl
  have HG := Lib.hid hbg
  have H13 := Lib.hid h13
  clear hbl hbg h13
  obtain ⟨i0, hi, hz0, hz1, hz2⟩ := info_parts i64info
  go_enter Tryz.func129, Tryz.ntmps129
  go_wp2_with fail
  have B0 := Blk.new w 119 #[.slice none 0 0, .slice none 0 0]
  have B1 := Blk.new (w.alloc (.cells #[.slice none 0 0, .slice none 0 0] 119)) 119 #[.slice none 0 0, .slice none 0 0]
  have O1 := ((On.refl w).alloc (.cells #[.slice none 0 0, .slice none 0 0] 119)).alloc (.cells #[.slice none 0 0, .slice none 0 0] 119)
  have B01 := B0.alloc (.cells #[.slice none 0 0, .slice none 0 0] 119)
  have hz : (w.alloc (.cells #[.slice none 0 0, .slice none 0 0] 119)).heap.size = w.heap.size + 1 := by simp
  rw [hz] at B1
  generalize (w.alloc (.cells #[.slice none 0 0, .slice none 0 0] 119)).alloc (.cells #[.slice none 0 0, .slice none 0 0] 119) = w1 at *
  clear hz B0
  generalize hA : w.heap.size = A at *
  have HA := Lib.hid hA
  clear hA
  have T0 : Two w1 (A + 1) (.slice none 0 0) (.slice none 0 0) [] [] := ⟨B1, World.ownsRow_nil _ _ _ _, World.ownsRow_nil _ _ _ _, fun k e => by simp [Value.ownBlock] at e, fun k e => by simp [Value.ownBlock] at e, fun k e => by simp [Value.ownBlock] at e⟩
  go_loopw [0, 14] (fun fv x wr => ∃ (k : Nat) (v1 v2 : Value), x = .int .i64 (k : Int) ∧ k ≤ many ∧ fv = .int .i64 ((f + (((l.take k).map fun b => 2 ^ b).sum) : Nat) : Int) ∧ Two wr (A + 1) v1 v2 (base f (l.take k)) (l.take k) ∧ (∀ g, v1.ownBlock = some g → A < g) ∧ (∀ g, v2.ownBlock = some g → A < g) ∧ On w wr ∧ Blk wr A 119 #[.slice none 0 0, .slice none 0 0]) (fun _ x _ => many - (intOf x).toNat)
  case atStart => exact ⟨0, .slice none 0 0, .slice none 0 0, rfl, by omega, rfl, T0, fun k e => by simp [Value.ownBlock] at e, fun k e => by simp [Value.ownBlock] at e, O1, B01⟩
  case round =>
    obtain ⟨k, v1, v2, rfl, hk, rfl, T, hv1, hv2, O, BA⟩ := hrel
    by_cases hlt : k < many
    · have hkl : k < l.length := by rw [HL.out]; exact hlt
      have hsum := sum_take_le l H13.out k
      have hst := sum_take_succ l hkl
      have hbt := base_take l f hkl
      have hlt2 := take_succ_getD l hkl
      have hlen : (base f (l.take k)).length = k := by rw [base_length, List.length_take]; omega
      have hlen2 : (l.take k).length = k := by rw [List.length_take]; omega
      have hb13 := getD_le H13.out k
      have hpw := pow_le hb13
      have hgg := HG.out k hlt
      obtain ⟨P, hP⟩ : ∃ P, 2 ^ l.getD k 0 = P := ⟨_, rfl⟩
      have hPi : (2 : Int) ^ l.getD k 0 = (P : Int) := by rw [← hP]; simp
      rw [hP] at hst hpw
      generalize hbv : l.getD k 0 = b at *
      generalize hs : ((l.take k).map fun b => 2 ^ b).sum = s at *
      have hfs : f + (s + P) = f + s + P := by omega
      have hfs2 : f + s ≤ 9000000 := by omega
      generalize hfv : f + s = fs at *
      have HFS := Lib.hid hfs
      have HST := Lib.hid hst
      have HBT := Lib.hid hbt
      have HLT := Lib.hid hlt2
      have HLEN := Lib.hid hlen
      have HLEN2 := Lib.hid hlen2
      have HFV := Lib.hid hfv
      have HP := Lib.hid hP
      clear hst hbt hlt2 hlen hlen2 hP hbv hs hfs hfv
      generalize base f (l.take k) = bk at *
      generalize l.take k = tk at *
      have c0 : wr.cell? ⟨A + 1, 0, none⟩ = some v1 := (T.b.cell 0).trans rfl
      have fr : ∀ i, wr.frozen? ⟨A + 1, i, none⟩ = false := T.b.frozen
      have hb64 : (b : Int) < 64 := by omega
      have hl1 : bk.length ≤ 1000000 := by rw [HLEN.out]; omega
      have hl2 : tk.length ≤ 1000000 := by rw [HLEN2.out]; omega
      by_cases hkp : k < plain
      · rw [if_pos hkp] at hgg
        subst hgg
        have hkp' : ¬ (plain : Int) ≤ k := by omega
        go_upto_region 9 with (at_builtin; go_must (refine wpList_app_at (us := #[.int .i64 (fs : Int)]) rfl _ _ 98 rfl i0 (.int .i64 0) 8 1 Tryz.underlying98 hi hz0 hz1 hz2 rfl (by decide) rfl v1 _ _ rfl T.o1 rfl (by simp [Value.oneCell']) (by unfold maxLen; omega) (by omega) ?_); intro v1' w2 hown1 hgr1 hne1 hat1; obtain ⟨r1, q1, rfl⟩ := own_slice hown1 hne1; have T1 := T.first hown1 hgr1 hat1; have O2 := ((O.grown hgr1 (fun g e => Nat.le_of_lt (by rw [HA.out]; exact hv1 g e))).set (p := ⟨A + 1, 0, none⟩) (by rw [HA.out]; exact Nat.le_succ _) (.slice (some ⟨r1, 0, none⟩) (bk.length + 1) q1)); have e0 : w2.cell? ⟨A + 1, 0, none⟩ = some v1 := ((T.b.grown hgr1 (fun e => T.d1 _ e.symm rfl)).cell 0).trans rfl; have e1 : w2.cell? ⟨A + 1, 1, none⟩ = some v2 := ((T.b.grown hgr1 (fun e => T.d1 _ e.symm rfl)).cell 1).trans rfl; have ef : ∀ i, w2.frozen? ⟨A + 1, i, none⟩ = false := (T.b.grown hgr1 (fun e => T.d1 _ e.symm rfl)).frozen)
        go_wp2_with (at_builtin; go_must (refine wpList_app_at (us := #[.int .i64 0]) rfl _ _ 98 rfl i0 (.int .i64 0) 8 1 Tryz.underlying98 hi hz0 hz1 hz2 rfl (by decide) rfl v2 _ _ rfl T1.o2 (by show Value.slice _ _ _ = _; simp [World.setCell]) (by simp [Value.oneCell']) (by unfold maxLen; omega) (by omega) ?_); intro v2' w3 hown2 hgr2 hne2 hat2; obtain ⟨r2, q2, rfl⟩ := own_slice hown2 hne2; have T2 := T1.second (x := 0) hown2 hgr2 hat2; have O3 := ((O2.grown hgr2 (fun g e => Nat.le_of_lt (by rw [HA.out]; exact hv2 g e))).set (p := ⟨A + 1, 1, none⟩) (by rw [HA.out]; exact Nat.le_succ _) (.slice (some ⟨r2, 0, none⟩) (tk.length + 1) q2)); have g1 : w3.cell? ⟨A + 1, 1, none⟩ = some v2 := ((T1.b.grown hgr2 (fun e => T1.d2 _ e.symm rfl)).cell 1).trans rfl; have gf : ∀ i, w3.frozen? ⟨A + 1, i, none⟩ = false := (T1.b.grown hgr2 (fun e => T1.d2 _ e.symm rfl)).frozen)
        rw [← HBT.out, ← HLT.out] at T2
        have hs1 : ∀ g, (Value.slice (some ⟨r1, 0, none⟩) (bk.length + 1) q1).ownBlock = some g → A < g := fun g e => by
          rcases hat1 g e with a | a
          · exact hv1 g a
          · have := T.b.lt; omega
        have hs2 : ∀ g, (Value.slice (some ⟨r2, 0, none⟩) (tk.length + 1) q2).ownBlock = some g → A < g := fun g e => by
          rcases hat2 g e with a | a
          · exact hv2 g a
          · have := T1.b.lt; omega
        have BA2 : Blk ((w3.setCell ⟨A + 1, 1, none⟩ (.slice (some ⟨r2, 0, none⟩) (tk.length + 1) q2))) A 119 #[.slice none 0 0, .slice none 0 0] :=
          (((((BA.grown hgr1 (fun e => by have := hv1 A e.symm; omega)).far (p := ⟨A + 1, 0, none⟩) (by simp) _)).grown hgr2 (fun e => by have := hv2 A e.symm; omega)).far (p := ⟨A + 1, 1, none⟩) (by simp) _)
        exact ⟨⟨k + 1, _, _, by go_num, by omega, by rw [HST.out, HFS.out]; go_num, T2, hs1, hs2, O3, BA2⟩, by simp [intOf]; omega⟩
      · rw [if_neg hkp] at hgg
        obtain ⟨d, hd⟩ : ∃ d, (k - plain) / each = d := ⟨_, rfl⟩
        rw [hd] at hgg
        subst hgg
        have hkp' : (plain : Int) ≤ k := by omega
        have hd1 : ((k : Int) - (plain : Int)) / (each : Int) = (d : Int) := by
          rw [← hd, show (k : Int) - (plain : Int) = ((k - plain : Nat) : Int) from by omega]; simp
        have hd2 : (d : Int) ≤ 13 := by omega
        have hb1 : ((d + 1 : Nat) : Int) = (d : Int) + 1 := by omega
        have HD := Lib.hid hd
        clear hd
        go_upto_region 9 with (at_builtin; go_must (refine wpList_app_at (us := #[.int .i64 (fs : Int)]) rfl _ _ 98 rfl i0 (.int .i64 0) 8 1 Tryz.underlying98 hi hz0 hz1 hz2 rfl (by decide) rfl v1 _ _ rfl T.o1 rfl (by simp [Value.oneCell']) (by unfold maxLen; omega) (by omega) ?_); intro v1' w2 hown1 hgr1 hne1 hat1; obtain ⟨r1, q1, rfl⟩ := own_slice hown1 hne1; have T1 := T.first hown1 hgr1 hat1; have O2 := ((O.grown hgr1 (fun g e => Nat.le_of_lt (by rw [HA.out]; exact hv1 g e))).set (p := ⟨A + 1, 0, none⟩) (by rw [HA.out]; exact Nat.le_succ _) (.slice (some ⟨r1, 0, none⟩) (bk.length + 1) q1)); have e0 : w2.cell? ⟨A + 1, 0, none⟩ = some v1 := ((T.b.grown hgr1 (fun e => T.d1 _ e.symm rfl)).cell 0).trans rfl; have e1 : w2.cell? ⟨A + 1, 1, none⟩ = some v2 := ((T.b.grown hgr1 (fun e => T.d1 _ e.symm rfl)).cell 1).trans rfl; have ef : ∀ i, w2.frozen? ⟨A + 1, i, none⟩ = false := (T.b.grown hgr1 (fun e => T.d1 _ e.symm rfl)).frozen)
        go_wp2_with (at_builtin; go_must (refine wpList_app_at (us := #[.int .i64 ((d + 1 : Nat) : Int)]) rfl _ _ 98 rfl i0 (.int .i64 0) 8 1 Tryz.underlying98 hi hz0 hz1 hz2 rfl (by decide) rfl v2 _ _ rfl T1.o2 (by show Value.slice _ _ _ = _; simp [World.setCell]) (by simp [Value.oneCell']) (by unfold maxLen; omega) (by omega) ?_); intro v2' w3 hown2 hgr2 hne2 hat2; obtain ⟨r2, q2, rfl⟩ := own_slice hown2 hne2; have T2 := T1.second (x := d + 1) hown2 hgr2 hat2; have O3 := ((O2.grown hgr2 (fun g e => Nat.le_of_lt (by rw [HA.out]; exact hv2 g e))).set (p := ⟨A + 1, 1, none⟩) (by rw [HA.out]; exact Nat.le_succ _) (.slice (some ⟨r2, 0, none⟩) (tk.length + 1) q2)); have g1 : w3.cell? ⟨A + 1, 1, none⟩ = some v2 := ((T1.b.grown hgr2 (fun e => T1.d2 _ e.symm rfl)).cell 1).trans rfl; have gf : ∀ i, w3.frozen? ⟨A + 1, i, none⟩ = false := (T1.b.grown hgr2 (fun e => T1.d2 _ e.symm rfl)).frozen)
        rw [← HBT.out, ← HLT.out] at T2
        have hs1 : ∀ g, (Value.slice (some ⟨r1, 0, none⟩) (bk.length + 1) q1).ownBlock = some g → A < g := fun g e => by
          rcases hat1 g e with a | a
          · exact hv1 g a
          · have := T.b.lt; omega
        have hs2 : ∀ g, (Value.slice (some ⟨r2, 0, none⟩) (tk.length + 1) q2).ownBlock = some g → A < g := fun g e => by
          rcases hat2 g e with a | a
          · exact hv2 g a
          · have := T1.b.lt; omega
        have BA2 : Blk ((w3.setCell ⟨A + 1, 1, none⟩ (.slice (some ⟨r2, 0, none⟩) (tk.length + 1) q2))) A 119 #[.slice none 0 0, .slice none 0 0] :=
          (((((BA.grown hgr1 (fun e => by have := hv1 A e.symm; omega)).far (p := ⟨A + 1, 0, none⟩) (by simp) _)).grown hgr2 (fun e => by have := hv2 A e.symm; omega)).far (p := ⟨A + 1, 1, none⟩) (by simp) _)
        exact ⟨⟨k + 1, _, _, by go_num, by omega, by rw [HST.out, HFS.out]; go_num, T2, hs1, hs2, O3, BA2⟩, by simp [intOf]; omega⟩
    · obtain rfl : k = many := by omega
      have htk : l.take k = l := List.take_of_length_le (by rw [HL.out]; exact Nat.le_refl _)
      rw [htk] at T
      have hne : l ≠ [] := by intro e; have := HL.out; rw [e] at this; simp at this; omega
      have hne2 : base f l ≠ [] := by intro e; have := base_length l f; rw [e] at this; simp at this; exact hne (List.length_eq_zero_iff.1 this.symm)
      obtain ⟨r1, q1, r2, q2, rfl, rfl, R1, R2, h1, h2⟩ := two_rows T hne2 hne
      have hbl := base_length l f
      rw [HL.out] at hbl h2
      rw [hbl] at h1
      have c0 : wr.cell? ⟨A + 1, 0, none⟩ = some (.slice (some ⟨r1, 0, none⟩) k q1) := by rw [← hbl]; exact (T.b.cell 0).trans rfl
      have c1 : wr.cell? ⟨A + 1, 1, none⟩ = some (.slice (some ⟨r2, 0, none⟩) k q2) := by rw [← HL.out]; exact (T.b.cell 1).trans rfl
      have a0 : wr.cell? ⟨A, 0, none⟩ = some (.slice none 0 0) := (BA.cell 0).trans rfl
      have a1 : wr.cell? ⟨A, 1, none⟩ = some (.slice none 0 0) := (BA.cell 1).trans rfl
      have af : ∀ i, wr.frozen? ⟨A, i, none⟩ = false := BA.frozen
      clear hbl htk
      go_wp2_with fail
      have BF := (BA.set 0 (.slice (some ⟨r1, 0, none⟩) k q1)).set 1 (.slice (some ⟨r2, 0, none⟩) k q2)
      have KF := ((Kp.refl [A] wr).set (p := ⟨A, 0, none⟩) (.inl (by simp)) (.slice (some ⟨r1, 0, none⟩) k q1)).set (p := ⟨A, 1, none⟩) (.inl (by simp)) (.slice (some ⟨r2, 0, none⟩) k q2)
      have hr1 : r1 ≠ A := by have := hv1 r1 rfl; omega
      have hr2 : r2 ≠ A := by have := hv2 r2 rfl; omega
      exact bodyPost_ret (v := .agg #[.slice (some ⟨r1, 0, none⟩) k q1, .slice (some ⟨r2, 0, none⟩) k q2]) (by exact res_c (fn := Tryz.f129) (p := 8) rfl BF rfl Tryz.underlying119 rfl (by kernel_rfl)) rfl
        ⟨r1, q1, r2, q2, rfl, R1.kp KF (by simpa using hr1), R2.kp KF (by simpa using hr2), h1, h2, by rw [HA.out]; exact Nat.le_of_lt (hv1 r1 rfl), by rw [HA.out]; exact Nat.le_of_lt (hv2 r2 rfl), KF.on O (fun x hx => by simp at hx; rw [hx, HA.out]; exact Nat.le_refl _)⟩
set_option maxRecDepth 100000 in
theorem longs_calls (w : World) : Calls Tryz.prog 109 #[] w (GivesL w longBits 28 3) := by
  have h := fun w => ladder_calls 3 28 8 4 w (by omega) (by omega) (by omega) (by omega) (by omega) (by omega) (by rw [bitsL_long]; decide)
  rw [bitsL_long] at h
  have H := Lib.hid h
  clear h
  go_enter Tryz.func109, Tryz.ntmps109
  go_wp2_with fail
  have O0 := (On.refl w).alloc (.cells #[.slice none 0 0, .slice none 0 0] 119)
  have B0 := Blk.new w 119 #[.slice none 0 0, .slice none 0 0]
  generalize w.alloc (.cells #[.slice none 0 0, .slice none 0 0] 119) = w1 at *
  generalize hA : w.heap.size = A at *
  have HA := Lib.hid hA
  clear hA
  refine (H.out w1).mono ?_
  rintro e w2 ⟨r1, q1, r2, q2, rfl, R1, R2, h1, h2, f1, f2, O2⟩
  have BA := O2.blk B0
  have a0 : w2.cell? ⟨A, 0, none⟩ = some (.slice none 0 0) := (BA.cell 0).trans rfl
  have a1 : w2.cell? ⟨A, 1, none⟩ = some (.slice none 0 0) := (BA.cell 1).trans rfl
  have af : ∀ i, w2.frozen? ⟨A, i, none⟩ = false := BA.frozen
  go_wp2_with fail
  have hA1 := B0.lt
  have BF := (BA.set 0 (.slice (some ⟨r1, 0, none⟩) 28 q1)).set 1 (.slice (some ⟨r2, 0, none⟩) 28 q2)
  have KF := ((Kp.refl [A] w2).set (p := ⟨A, 0, none⟩) (.inl (by simp)) (.slice (some ⟨r1, 0, none⟩) 28 q1)).set (p := ⟨A, 1, none⟩) (.inl (by simp)) (.slice (some ⟨r2, 0, none⟩) 28 q2)
  exact bodyPost_ret (v := .agg #[.slice (some ⟨r1, 0, none⟩) 28 q1, .slice (some ⟨r2, 0, none⟩) 28 q2]) (by exact res_c (fn := Tryz.f109) (p := 0) rfl BF rfl Tryz.underlying119 rfl (by kernel_rfl)) rfl
    ⟨r1, q1, r2, q2, rfl, R1.kp KF (by simp; omega), R2.kp KF (by simp; omega), h1, h2, by rw [HA.out]; omega, by rw [HA.out]; omega, KF.on (O0.call O2) (fun x hx => by simp at hx; rw [hx, HA.out]; exact Nat.le_refl _)⟩
set_option maxRecDepth 100000 in
theorem backs_calls (w : World) : Calls Tryz.prog 111 #[] w (GivesL w backBits 30 1) := by
  have h := fun w => ladder_calls 1 30 4 2 w (by omega) (by omega) (by omega) (by omega) (by omega) (by omega) (by rw [bitsL_back]; decide)
  rw [bitsL_back] at h
  have H := Lib.hid h
  clear h
  go_enter Tryz.func111, Tryz.ntmps111
  go_wp2_with fail
  have O0 := (On.refl w).alloc (.cells #[.slice none 0 0, .slice none 0 0] 119)
  have B0 := Blk.new w 119 #[.slice none 0 0, .slice none 0 0]
  generalize w.alloc (.cells #[.slice none 0 0, .slice none 0 0] 119) = w1 at *
  generalize hA : w.heap.size = A at *
  have HA := Lib.hid hA
  clear hA
  refine (H.out w1).mono ?_
  rintro e w2 ⟨r1, q1, r2, q2, rfl, R1, R2, h1, h2, f1, f2, O2⟩
  have BA := O2.blk B0
  have a0 : w2.cell? ⟨A, 0, none⟩ = some (.slice none 0 0) := (BA.cell 0).trans rfl
  have a1 : w2.cell? ⟨A, 1, none⟩ = some (.slice none 0 0) := (BA.cell 1).trans rfl
  have af : ∀ i, w2.frozen? ⟨A, i, none⟩ = false := BA.frozen
  go_wp2_with fail
  have hA1 := B0.lt
  have BF := (BA.set 0 (.slice (some ⟨r1, 0, none⟩) 30 q1)).set 1 (.slice (some ⟨r2, 0, none⟩) 30 q2)
  have KF := ((Kp.refl [A] w2).set (p := ⟨A, 0, none⟩) (.inl (by simp)) (.slice (some ⟨r1, 0, none⟩) 30 q1)).set (p := ⟨A, 1, none⟩) (.inl (by simp)) (.slice (some ⟨r2, 0, none⟩) 30 q2)
  exact bodyPost_ret (v := .agg #[.slice (some ⟨r1, 0, none⟩) 30 q1, .slice (some ⟨r2, 0, none⟩) 30 q2]) (by exact res_c (fn := Tryz.f111) (p := 0) rfl BF rfl Tryz.underlying119 rfl (by kernel_rfl)) rfl
    ⟨r1, q1, r2, q2, rfl, R1.kp KF (by simp; omega), R2.kp KF (by simp; omega), h1, h2, by rw [HA.out]; omega, by rw [HA.out]; omega, KF.on (O0.call O2) (fun x hx => by simp at hx; rw [hx, HA.out]; exact Nat.le_refl _)⟩
end Go.Proofs.YtnadjlejlohgiaaGreatDoor.Wi

